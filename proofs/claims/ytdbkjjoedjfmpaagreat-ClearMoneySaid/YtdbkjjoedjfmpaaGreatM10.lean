/- A part of the proof. -/
import Derived.Test.YtdbkjjoedjfmpaaGreatM09
set_option linter.unusedSimpArgs false
set_option linter.unusedVariables false
open Rat renaming le_refl → acN, div_def → acS, mul_nonneg → acT, mul_pos → acU, zero_mul → acV, mul_zero → acW, le_trans → acY, intCast_add → ac5, intCast_sub → ac8, one_mul → ac9, intCast_mul → adi, intCast_eq_zero_iff → adT, divInt → adU, divInt_eq_div → adV, neg_num → ad0, mul_comm → ad2, zero_add → ad5, natCast_eq_zero_iff → ad7, mul_add → ad8, intCast_natCast → aea, zero_den → aec, zero_num → aed
open List renaming mem_cons_self → acO, mem_cons_of_mem → acP, range → acZ, mem_range → ac0, getD_eq_getElem?_getD → ac2, getElem?_eq_getElem → ac3, map_cons → ac4, length_cons → ac6, cons_append → ac7, append_assoc → adb, nil_append → adc, append_of_mem → ade, map_append → adf, map_nil → adg, map_map → adh, mem_append → adn, mem_cons → ado, getElem?_map → adt, getElem?_range → adu, ext_getElem? → adv, getElem?_eq_none → adw, zipWith → adx, zip_cons_cons → ady, zipWith_cons_cons → adz, mem_map → adB, getElem?_cons_zero → adD, any_eq_false → adF, length_map → adG, length_set → adI, getElem?_set → adJ, getElem_drop → adK, length_drop → adL, findIdx_getElem → adM, length_nil → adO, mem_of_getElem? → adQ, mem_map_of_mem → ad3, count_cons_self → ad4, sum_cons → ad6, count_cons → ad9
open Classical renaming byContradiction → acQ
open Nat renaming zero_le → acR, le_refl → acX, lt_or_ge → ada, mul_le_mul → adk, succ_mul → adl, mul_assoc → adm, mul_left_comm → adp, pow_succ → adq, mul_comm → adr, mul_le_mul_right → ads, add_zero → adC, zero_add → adN, pow_le_pow_right → adR, le_trans → adS, eq_zero_or_pos → adX, pow_add → adY, add_comm → adZ, one_le_two_pow → aeb
open Bool renaming and_eq_true → ac1, or_false → adA, or_eq_true → adE, not_eq_true' → adP
open Int renaming natAbs_mul → adj, natAbs_natCast → adW, mul_ne_zero → ad1, zero_mul → aee
open Option renaming map_some → adH
namespace Go.Mini
open Classical
structure Cl where
 fr:Nat
 to:Int
 rk:Nat
 am:Rat
theorem jD {a b:Rat} (h:a=b):a≤b:=by rw[h];exact acN
def sumC:List Cl→(Cl→Rat)→Rat
 | [],_=>0
 | c::l,F=>F c+sumC l F
theorem cI {l:List Cl} {F G:Cl→Rat} (h:∀ c∈l,F c=G c):sumC l F=sumC l G:=by
 induction l with
 | nil=>rfl
 | cons c l ih=>rw[sumC,sumC,h c acO,ih fun x hx=>h x (acP _ hx)]
theorem mS (l:List Cl) (F G:Cl→Rat):sumC l (fun c=>F c+G c)=sumC l F+sumC l G:=by
 induction l with
 | nil=>simp only[sumC];grind
 | cons c l ih=>rw[sumC,sumC,sumC,ih];grind
theorem od (l:List Cl) (F G:Cl→Rat):sumC l (fun c=>F c-G c)=sumC l F-sumC l G:=by
 induction l with
 | nil=>simp only[sumC];grind
 | cons c l ih=>rw[sumC,sumC,sumC,ih];grind
theorem ra (l:List Cl) (a:Rat) (F:Cl→Rat):sumC l (fun c=>a*F c)=a*sumC l F:=by
 induction l with
 | nil=>simp only[sumC];grind
 | cons c l ih=>rw[sumC,sumC,ih];grind
theorem jy {l:List Cl} {F:Cl→Rat} (h:∀ c∈l,F c=0):sumC l F=0:=by
 induction l with
 | nil=>rfl
 | cons c l ih=>rw[sumC,h c acO,ih fun x hx=>h x (acP _ hx)];grind
theorem ng {l:List Cl} {F G:Cl→Rat} (h:∀ c∈l,F c≤G c):sumC l F≤sumC l G:=by
 induction l with
 | nil=>exact acN
 | cons c l ih =>
  have h1:=h c acO;have h2:=ih fun x hx=>h x (acP _ hx)
  rw[sumC,sumC];grind
theorem dA {l:List Cl} {F:Cl→Rat} (h:∀ c∈l,0≤F c):0≤sumC l F:=by
 have:=ng (l:=l) (F:=fun _=>0) (G:=F) h
 rwa [jy fun _ _=>rfl] at this
theorem sC {l:List Cl} {F:Cl→Rat} (h:∀ c∈l,0≤F c) (hs:sumC l F≤0):∀ c∈l,F c=0:=by
 induction l with
 | nil=>intro c hc;cases hc
 | cons c l ih =>
  rw[sumC] at hs;have h1:=h c acO;have h2:=dA fun x hx=>h x (acP c hx)
  intro x hx;rcases List.mem_cons.1 hx with rfl | hx
  ·grind
  ·exact ih (fun y hy=>h y (acP _ hy)) (by grind) x hx
theorem L5 {l:List Cl} {F G:Cl→Rat} (h:∀ c∈l,F c≤G c) {c0:Cl} (hc:c0∈l) (hlt:F c0<G c0):sumC l F<sumC l G:=by
 by_cases hs:sumC l F<sumC l G
 ·exact hs
 ·have:=sC (l:=l) (F:=fun c=>G c-F c) (fun c hc=>by have:=h c hc;grind) (by rw[od];grind) c0 hc
  grind
theorem rA {l:List Cl} {F:Cl→Rat} (h:0<sumC l F):∃ c∈l,0<F c:=by
 apply acQ;intro hn
 have:=ng (l:=l) (F:=F) (G:=fun _=>0) fun c hc=>by
  apply acQ;intro h2;exact hn ⟨c,hc,by grind⟩
 rw[jy (F:=fun _=>(0:Rat)) fun _ _=>rfl] at this
 grind
theorem qF {n:Nat} {f g:Nat→Rat} (h:∀ k,k<n→f k≤g k):sumQ n f≤sumQ n g:=by
 induction n with
 | zero=>exact acN
 | succ n ih =>
  have h1:=h n (by omega);have h2:=ih fun k hk=>h k (by omega)
  rw[sumQ,sumQ];grind
theorem ov {n:Nat} {f:Nat→Rat} (h:∀ k,k<n→0≤f k):0≤sumQ n f:=by
 have:=qF (n:=n) (f:=fun _=>0) (g:=f) h
 rwa [gR fun _ _=>rfl] at this
theorem mw (n:Nat) (f g:Nat→Rat):sumQ n (fun k=>f k-g k)=sumQ n f-sumQ n g:=by
 induction n with
 | zero=>simp only[sumQ];grind
 | succ n ih=>rw[sumQ,sumQ,sumQ,ih];grind
theorem HB {n:Nat} {f:Nat→Rat} (h:∀ k,k<n→0≤f k) (hs:sumQ n f≤0):∀ k,k<n→f k=0:=by
 induction n with
 | zero=>intro k hk;omega
 | succ n ih =>
  rw[sumQ] at hs;have h1:=h n (by omega);have h2:=ov (n:=n) (f:=f) fun k hk=>h k (by omega)
  intro k hk
  by_cases hkn:k=n
  ·subst hkn;grind
  ·exact ih (fun k hk=>h k (by omega)) (by grind) k (by omega)
def inC (C:Nat→Prop) (c:Cl):Prop:=∃ i:Nat,c.to=i∧C i
theorem yy {n:Nat} (C:Nat→Prop) (hC:∀ i,C i→i<n) (l:List Cl) (a:Cl→Rat):sumQ n (fun i=>if C i then sumC l (fun c=>if c.to=(i:Int) then a c else 0) else 0)=sumC l (fun c=>if inC C c then a c else 0):=by
 induction l with
 | nil=>exact gR fun k _=>by split<;>rfl
 | cons c l ih =>
  rw[sumC,←ih]
  have e:(fun i:Nat=>if C i then sumC (c::l) (fun c=>if c.to=(i:Int) then a c else 0) else 0)=fun i=>(if C i then (if c.to=(i:Int) then a c else 0) else 0)+(if C i then sumC l (fun c=>if c.to=(i:Int) then a c else 0) else 0):=by
   funext i
   split
   ·rw[sumC]
   ·grind
  rw[e,jT]
  congr 1
  by_cases h:inC C c
  ·obtain⟨i,hi,hCi⟩:=h
   rw[im (hC i hCi) fun k hk hki=>by
    split
    ·rw[if_neg (by omega)]
    ·rfl]
   rw[if_pos hCi,if_pos hi,if_pos ⟨i,hi,hCi⟩]
  ·rw[if_neg h]
   refine gR fun k hk=>?_
   split
   ·rw[if_neg fun hk2=>h ⟨k,hk2,by assumption⟩]
   ·rfl
theorem xY {n:Nat} {l:List Cl} (hl:∀ c∈l,c.fr<n) (b:Nat→Cl→Rat):sumQ n (fun k=>sumC l (fun c=>if c.fr=k then b k c else 0))=sumC l (fun c=>b c.fr c):=by
 induction l with
 | nil=>exact gR fun k _=>rfl
 | cons c l ih =>
  rw[sumC,←ih fun x hx=>hl x (acP _ hx)]
  have e:(fun k:Nat=>sumC (c::l) (fun c=>if c.fr=k then b k c else 0))=fun k=>(if c.fr=k then b k c else 0)+sumC l (fun c=>if c.fr=k then b k c else 0):=rfl
  rw[e,jT]
  congr 1
  rw[im (hl c acO) fun k _ hk=>if_neg (Ne.symm hk),if_pos rfl]
structure Day where
 n:Nat
 cash:Nat→Rat
 cl:List Cl
structure Day.OK (d:Day):Prop where
 fr:∀ c∈d.cl,c.fr<d.n
 to:∀ c∈d.cl,c.to<d.n
 rk:∀ c∈d.cl,c.rk<10
 am:∀ c∈d.cl,0≤c.am
 cash:∀ i,i<d.n→0≤d.cash i
noncomputable def Day.U (d:Day) (k r:Nat):Rat:=sumC d.cl fun c=>if c.fr=k∧c.rk<r then c.am else 0
noncomputable def Day.S (d:Day) (k r:Nat):Rat:=sumC d.cl fun c=>if c.fr=k∧c.rk=r then c.am else 0
theorem Day.U_zero (d:Day) (k:Nat):d.U k 0=0:=jy fun c _=>if_neg (by omega)
theorem Day.U_succ (d:Day) (k r:Nat):d.U k (r+1)=d.U k r+d.S k r:=by
 unfold Day.U Day.S;rw[←mS];refine cI fun c _=>?_
 by_cases h1:c.fr=k∧c.rk<r
 ·rw[if_pos ⟨h1.1,by omega⟩,if_pos h1,if_neg (by omega)];grind
 ·rw[if_neg h1]
  by_cases h2:c.fr=k∧c.rk=r
  ·rw[if_pos ⟨h2.1,by omega⟩,if_pos h2];grind
  ·rw[if_neg (by omega),if_neg h2];grind
theorem Day.OK.S_nonneg {d:Day} (hd:d.OK) (k r:Nat):0≤d.S k r:=dA fun c hc=>by
 split
 ·exact hd.am c hc
 ·exact acN
theorem Day.OK.U_mono {d:Day} (hd:d.OK) (k:Nat) {r s:Nat} (h:r≤s):d.U k r≤d.U k s:=by
 induction s with
 | zero =>
      obtain rfl:r=0:=by omega
      exact acN
 | succ s ih =>
  by_cases hr:r=s+1
  ·rw[hr];exact acN
  ·have h1:=ih (by omega)
   have h2:=hd.S_nonneg k s;rw[d.U_succ];grind
theorem Day.OK.U_nonneg {d:Day} (hd:d.OK) (k r:Nat):0≤d.U k r:=by
 have:=hd.U_mono k (acR r)
 rwa [d.U_zero] at this
theorem Day.OK.am_le {d:Day} (hd:d.OK) {c:Cl} (hc:c∈d.cl):c.am≤d.S c.fr c.rk:=by
 have:∀ l:List Cl,(∀ x∈l,0≤x.am)→c∈l→c.am≤sumC l fun x=>if x.fr=c.fr∧x.rk=c.rk then x.am else 0:=by
  intro l
  induction l with
  | nil=>intro _ h;cases h
  | cons x l ih =>
   intro h1 h2;rw[sumC]
   have h3:0≤sumC l fun x=>if x.fr=c.fr∧x.rk=c.rk then x.am else 0:=dA fun y hy=>by
    split
    ·exact h1 y (acP _ hy)
    ·exact acN
   rcases List.mem_cons.1 h2 with rfl | h2
   ·rw[if_pos ⟨rfl,rfl⟩];grind
   ·have h4:=ih (fun y hy=>h1 y (acP _ hy)) h2
    have h5:=h1 x acO
    split<;>grind
 exact this d.cl hd.am hc
noncomputable def Day.w (d:Day) (c:Cl):Rat:=c.am / d.S c.fr c.rk
theorem Day.OK.w_nonneg {d:Day} (hd:d.OK) {c:Cl} (hc:c∈d.cl):0≤d.w c:=by
 unfold Day.w;have h1:=hd.am c hc;have h2:=hd.S_nonneg c.fr c.rk;rw[acS]
 exact acT h1 (by
  rcases Rat.le_iff_lt_or_eq.1 h2 with h | h
  ·exact Rat.le_of_lt (Rat.inv_pos.2 h)
  ·rw[←h];exact jD Rat.inv_zero.symm)
theorem Day.OK.w_pos {d:Day} (hd:d.OK) {c:Cl} (hc:c∈d.cl) (h:0<c.am):0<d.w c:=by
 unfold Day.w;have h2:=hd.am_le hc;rw[acS];exact acU h (Rat.inv_pos.2 (by grind))
theorem Day.w_zero {d:Day} {c:Cl} (h:c.am=0):d.w c=0:=by
 unfold Day.w;rw[h,acS,acV]
theorem Day.w_S {d:Day} {c:Cl} (h:0<d.S c.fr c.rk):d.w c*d.S c.fr c.rk=c.am:=by
 unfold Day.w;grind
theorem Day.OK.sum_fr {d:Day} (hd:d.OK) (C:Nat→Prop) (f:Nat→Nat) (hS:∀ k,C k→0<d.S k (f k)) (x:Nat→Rat):sumC d.cl (fun c=>if C c.fr∧c.rk=f c.fr then d.w c*x c.fr else 0)=sumQ d.n (fun k=>if C k then x k else 0):=by
 rw[←xY hd.fr fun k c=>if C k∧c.rk=f k then d.w c*x k else 0]
 refine bI fun k hk=>?_
 by_cases hC:C k
 ·rw[if_pos hC]
  have hpos:=hS k hC
  have e:sumC d.cl (fun c=>if c.fr=k then (if C k∧c.rk=f k then d.w c*x k else 0) else 0)=sumC d.cl fun c=>(x k / d.S k (f k))*(if c.fr=k∧c.rk=f k then c.am else 0):=by
   refine cI fun c _=>?_
   by_cases h1:c.fr=k
   ·by_cases h2:c.rk=f k
    ·rw[if_pos h1,if_pos ⟨hC,h2⟩,if_pos ⟨h1,h2⟩]
     unfold Day.w;rw[h1,h2];grind
    ·rw[if_pos h1,if_neg (fun h=>h2 h.2),if_neg (fun h=>h2 h.2)];grind
   ·rw[if_neg h1,if_neg (fun h=>h1 h.1)];grind
  rw[e,ra]
  show x k / d.S k (f k)*d.S k (f k)=x k;grind
 ·rw[if_neg hC]
  exact jy fun c _=>by
   split
   ·rw[if_neg fun h=>hC h.1]
   ·rfl
end Go.Mini
namespace Go.Mini
open Classical
noncomputable def pos (x:Rat):Rat:=if x≤0 then 0 else x
theorem jA (x:Rat):0≤pos x:=by unfold pos;split<;>grind
theorem xF (x:Rat):x≤pos x:=by unfold pos;split<;>grind
theorem zZ {x y:Rat} (h:x≤y):pos x≤pos y:=by unfold pos;split<;>split<;>grind
theorem ka {x:Rat} (h:0≤x):pos x=x:=by unfold pos;split<;>grind
theorem gk {x:Rat} (h:x≤0):pos x=0:=if_pos h
theorem kT {a x y:Rat} (ha:0≤a) (h:x≤y):a*x≤a*y:=Rat.mul_le_mul_of_nonneg_left h ha
theorem dE {a x:Rat} (ha:0≤a) (h:0≤x):0≤a*x:=acT ha h
noncomputable def Day.q (d:Day) (f:Nat→Nat) (h:Nat→Rat) (c:Cl):Rat:=if c.rk<f c.fr then c.am else if c.rk=f c.fr then d.w c*pos (h c.fr-d.U c.fr c.rk) else 0
noncomputable def Day.l (d:Day) (f:Nat→Nat) (P:Nat→Prop) (h:Nat→Rat) (c:Cl):Rat:=if c.rk<f c.fr then c.am else if c.rk=f c.fr∧P c.fr then d.w c*(h c.fr-d.U c.fr c.rk) else 0
noncomputable def Day.into (d:Day) (a:Cl→Rat) (i:Nat):Rat:=d.cash i+sumC d.cl fun c=>if c.to=(i:Int) then a c else 0
theorem Day.into_le {d:Day} {a b:Cl→Rat} (h:∀ c∈d.cl,a c≤b c) (i:Nat):d.into a i≤d.into b i:=by
 unfold Day.into
 have:=ng (l:=d.cl) (F:=fun c=>if c.to=(i:Int) then a c else 0) (G:=fun c=>if c.to=(i:Int) then b c else 0) fun c hc=>by
  try dsimp only
  split
  ·exact h c hc
  ·exact acN
 grind
theorem Day.into_congr {d:Day} {a b:Cl→Rat} (h:∀ c∈d.cl,a c=b c) (i:Nat):d.into a i=d.into b i:=by
 unfold Day.into
 congr 1
 exact cI fun c hc=>by rw[h c hc]
theorem Day.into_sub (d:Day) (a b:Cl→Rat) (i:Nat):d.into a i-d.into b i=sumC d.cl fun c=>if c.to=(i:Int) then a c-b c else 0:=by
 unfold Day.into
 have:(fun c:Cl=>if c.to=(i:Int) then a c-b c else 0)=fun c=>(if c.to=(i:Int) then a c else 0)-(if c.to=(i:Int) then b c else 0):=by
  funext c;split<;>grind
 rw[this,od];grind
noncomputable def Day.sumIn (d:Day) (C:Nat→Prop) (x:Nat→Rat):Rat:=sumQ d.n fun i=>if C i then x i else 0
theorem Day.sumIn_sub (d:Day) (C:Nat→Prop) (x y:Nat→Rat):d.sumIn C (fun i=>x i-y i)=d.sumIn C x-d.sumIn C y:=by
 unfold Day.sumIn;rw[←mw];exact bI fun k _=>by split<;>grind
theorem Day.sumIn_add (d:Day) (C:Nat→Prop) (x y:Nat→Rat):d.sumIn C (fun i=>x i+y i)=d.sumIn C x+d.sumIn C y:=by
 unfold Day.sumIn;rw[←jT];exact bI fun k _=>by split<;>grind
theorem Day.sumIn_le {d:Day} {C:Nat→Prop} {x y:Nat→Rat} (h:∀ i,i<d.n→C i→x i≤y i):d.sumIn C x≤d.sumIn C y:=by
 refine qF fun k hk=>?_
 by_cases hc:C k
 ·rw[if_pos hc,if_pos hc];exact h k hk hc
 ·rw[if_neg hc,if_neg hc];exact acN
theorem Day.sumIn_congr {d:Day} {C:Nat→Prop} {x y:Nat→Rat} (h:∀ i,i<d.n→C i→x i=y i):d.sumIn C x=d.sumIn C y:=by
 refine bI fun k hk=>?_
 split
 ·exact h k hk (by assumption)
 ·rfl
theorem Day.sumIn_into {d:Day} {C:Nat→Prop} (hC:∀ i,C i→i<d.n) (a:Cl→Rat):d.sumIn C (d.into a)=d.sumIn C d.cash+sumC d.cl fun c=>if inC C c then a c else 0:=by
 rw[←yy C hC]
 show sumQ d.n _=sumQ d.n _+_;rw[←jT];refine bI fun k _=>?_
 unfold Day.into
 split<;>grind
def Day.closed (d:Day) (f:Nat→Nat) (C:Nat→Prop):Prop:=∀ c∈d.cl,C c.fr→c.rk=f c.fr→0<c.am→inC C c
noncomputable def Day.cap (d:Day) (f:Nat→Nat) (g:Nat→Rat) (C:Nat→Prop) (k:Nat):Rat:=if C k then d.U k (f k) else g k
section
variable {d:Day} {f:Nat→Nat} {P:Nat→Prop} {h g:Nat→Rat} {C:Nat→Prop} {c:Cl}
theorem Day.l_lt (h1:c.rk<f c.fr):d.l f P h c=c.am:=by unfold Day.l;rw[if_pos h1]
theorem Day.l_eq (h1:c.rk=f c.fr) (h2:P c.fr):d.l f P h c=d.w c*(h c.fr-d.U c.fr c.rk):=by
 unfold Day.l;rw[if_neg (by omega),if_pos ⟨h1,h2⟩]
theorem Day.l_no (h1:¬ c.rk<f c.fr) (h2:¬ (c.rk=f c.fr∧P c.fr)):d.l f P h c=0:=by
 unfold Day.l;rw[if_neg h1,if_neg h2]
theorem Day.q_lt (h1:c.rk<f c.fr):d.q f h c=c.am:=by unfold Day.q;rw[if_pos h1]
theorem Day.q_eq (h1:c.rk=f c.fr):d.q f h c=d.w c*pos (h c.fr-d.U c.fr c.rk):=by
 unfold Day.q;rw[if_neg (by omega),if_pos h1]
theorem Day.q_no (h1:¬ c.rk<f c.fr) (h2:¬ c.rk=f c.fr):d.q f h c=0:=by
 unfold Day.q;rw[if_neg h1,if_neg h2]
theorem mM (h:¬ C c.fr):d.q f (d.cap f g C) c=d.q f g c:=by
 unfold Day.q Day.cap;rw[if_neg h]
theorem mO (h:C c.fr):d.q f (d.cap f g C) c=if c.rk<f c.fr then c.am else 0:=by
 by_cases h1:c.rk<f c.fr
 ·rw[if_pos h1,Day.q_lt h1]
 ·rw[if_neg h1]
  by_cases h2:c.rk=f c.fr
  ·rw[Day.q_eq h2]
   unfold Day.cap;rw[if_pos h,h2,gk (by grind),acW]
  ·rw[Day.q_no h1 h2]
end
structure Inv (d:Day) (f:Nat→Nat) (g:Nat→Rat):Prop where
 le:∀ i,f i≤10
 sup:∀ i,i<d.n→d.into (d.q f g) i≤g i
 lo:∀ i,i<d.n→f i<10→d.U i (f i)≤g i
 hi:∀ i,i<d.n→f i<10→g i<d.U i (f i+1)
 cl:∀ C:Nat→Prop,(∃ i,C i)→(∀ i,C i→i<d.n∧f i<10)→d.closed f C→d.sumIn C (d.into (d.q f (d.cap f g C)))<d.sumIn C fun i=>d.U i (f i)
theorem Inv.S_pos {d:Day} {f:Nat→Nat} {g:Nat→Rat} (h:Inv d f g) {i:Nat} (hi:i<d.n) (hf:f i<10):0<d.S i (f i):=by
 have h1:=h.lo i hi hf;have h2:=h.hi i hi hf;rw[d.U_succ] at h2;grind
theorem Inv.start {d:Day} (hd:d.OK):Inv d (fun _=>10) (d.into fun c=>c.am) :=
 ⟨fun _=>acX _,fun i _=>d.into_le (fun c hc=>by
  unfold Day.q;rw[if_pos (hd.rk c hc)];exact acN) i,fun i _ h=>absurd h (by omega),fun i _ h=>absurd h (by omega),fun C ⟨i,hi⟩ h=>absurd (h i hi).2 (by omega)⟩
theorem Inv.flow {d:Day} {f:Nat→Nat} {g:Nat→Rat} (hi:Inv d f g) (hd:d.OK) {C:Nat→Prop} (h1:∃ i,C i) (h2:∀ i,C i→i<d.n∧f i<10) (h3:d.closed f C) (L:Cl→Rat) (e:Nat→Rat) (he:∀ k,k<d.n→C k→0≤e k)
  (hL:∀ c∈d.cl,inC C c→L c≤d.q f (d.cap f g C) c+if C c.fr∧c.rk=f c.fr then d.w c*e c.fr else 0):d.sumIn C (d.into L)<d.sumIn C fun i=>d.U i (f i)+e i:=by
 have k1:=hi.cl C h1 h2 h3;have hC:∀ i,C i→i<d.n:=fun i h=>(h2 i h).1
 have k2:=hd.sum_fr C f (fun k hk=>hi.S_pos (h2 k hk).1 (h2 k hk).2) e;rw[Day.sumIn_into hC] at k1 ⊢;rw[Day.sumIn_add]
 have k3:sumC d.cl (fun c=>if inC C c then L c else 0)≤sumC d.cl fun c=>(if inC C c then d.q f (d.cap f g C) c else 0)+(if C c.fr∧c.rk=f c.fr then d.w c*e c.fr else 0):=by
  refine ng fun c hc=>?_
  have h0:0≤if C c.fr∧c.rk=f c.fr then d.w c*e c.fr else 0:=by
   split
   ·exact dE (hd.w_nonneg hc) (he _ (hd.fr c hc) (by rename_i h;exact h.1))
   ·exact acN
  by_cases hin:inC C c
  ·rw[if_pos hin,if_pos hin];exact hL c hc hin
  ·rw[if_neg hin,if_neg hin];grind
 rw[mS,k2] at k3;have k4:d.sumIn C e=sumQ d.n fun k=>if C k then e k else 0:=rfl
 rw[←k4] at k3;grind
structure Pay (d:Day) (f:Nat→Nat) (g:Nat→Rat) (P:Nat→Prop) (h:Nat→Rat):Prop where
 fallen:∀ i,P i→i<d.n∧f i<10
 open':∀ C:Nat→Prop,(∃ i,C i)→(∀ i,C i→P i)→¬ d.closed f C
 sys:∀ i,i<d.n→h i=d.into (d.l f P h) i
 le:∀ i,i<d.n→h i≤g i
 ge:∀ i,P i→d.U i (f i)<h i
theorem ml {d:Day} {f:Nat→Nat} {g:Nat→Rat} (hi:Inv d f g) (hd:d.OK) {P:Nat→Prop} (hP:∀ i,P i→i<d.n∧f i<10) (ho:∀ C:Nat→Prop,(∃ i,C i)→(∀ i,C i→P i)→¬ d.closed f C) (x:Nat→Rat)
  (hx:∀ i,i<d.n→(sumC d.cl fun c=>if c.to=(i:Int) then (if c.rk=f c.fr∧P c.fr then d.w c*x c.fr else 0) else 0)≤x i):∀ i,i<d.n→0≤x i:=by
 have key:∀ i,P i→0≤x i:=by
  intro i0 hi0;apply acQ;intro hneg;obtain⟨C,hCd⟩:∃ C:Nat→Prop,∀ i,C i↔P i∧x i<0:=⟨fun i=>P i∧x i<0,fun _=>Iff.rfl⟩
  have hC:∀ i,C i→i<d.n:=fun i h=>(hP i ((hCd i).1 h).1).1
  refine ho C ⟨i0,(hCd i0).2 ⟨hi0,by grind⟩⟩ (fun i h=>((hCd i).1 h).1) ?_
  have e1:=yy C hC d.cl fun c=>if c.rk=f c.fr∧P c.fr then d.w c*x c.fr else 0
  have e2:=hd.sum_fr C f (fun k hk=>hi.S_pos (hP k ((hCd k).1 hk).1).1 (hP k ((hCd k).1 hk).1).2) x
  have e3:sumQ d.n (fun i=>if C i then sumC d.cl (fun c=>if c.to=(i:Int) then (if c.rk=f c.fr∧P c.fr then d.w c*x c.fr else 0) else 0) else 0)≤sumQ d.n (fun k=>if C k then x k else 0):=by
   refine qF fun k hk=>?_
   by_cases hc:C k
   ·rw[if_pos hc,if_pos hc];exact hx k hk
   ·rw[if_neg hc,if_neg hc];exact acN
  rw[e1,←e2] at e3;have e4:=sC (l:=d.cl) (F:=fun c=>(if inC C c then (if c.rk=f c.fr∧P c.fr then d.w c*x c.fr else 0) else 0)-(if C c.fr∧c.rk=f c.fr then d.w c*x c.fr else 0)) (fun c hc=>?_) (by rw[od];grind)
  ·intro c hc hcC hrk ham
   apply acQ;intro hin;have:=e4 c hc
   try dsimp only at this
   rw[if_neg hin,if_pos ⟨hcC,hrk⟩] at this;have h1:=hd.w_pos hc ham;have h2:=((hCd _).1 hcC).2;have h3:0<d.w c*(-x c.fr):=acU h1 (by grind);grind
  ·try dsimp only
   have h1:=hd.w_nonneg hc
   have hB:((if C c.fr∧c.rk=f c.fr then d.w c*x c.fr else 0)=(if c.rk=f c.fr∧P c.fr then d.w c*x c.fr else 0)∧(if C c.fr∧c.rk=f c.fr then d.w c*x c.fr else 0)≤0)∨((if C c.fr∧c.rk=f c.fr then d.w c*x c.fr else 0)=0∧0≤(if c.rk=f c.fr∧P c.fr then d.w c*x c.fr else 0)):=by
    by_cases hcC:C c.fr∧c.rk=f c.fr
    ·left
     have h2:=(hCd _).1 hcC.1;have h3:0≤d.w c*(-x c.fr):=dE h1 (by have:=h2.2;grind);have h4:c.rk=f c.fr∧P c.fr:=⟨hcC.2,h2.1⟩;rw[if_pos hcC,if_pos h4];exact⟨rfl,by grind⟩
    ·right
     rw[if_neg hcC];refine⟨rfl,?_⟩
     split
     ·rename_i h2
      refine dE h1 ?_;apply acQ;intro h;exact hcC ⟨(hCd _).2 ⟨h2.2,by grind⟩,h2.1⟩
     ·exact acN
   generalize (if C c.fr∧c.rk=f c.fr then d.w c*x c.fr else 0)=B at *;generalize (if c.rk=f c.fr∧P c.fr then d.w c*x c.fr else 0)=A at *;rcases hB with ⟨h2,h3⟩ | ⟨h2,h3⟩<;>split<;>grind
 intro i hin;refine acY ?_ (hx i hin);refine dA fun c hc=>?_
 split
 ·split
  ·rename_i h
   exact dE (hd.w_nonneg hc) (key _ h.2)
  ·exact acN
 ·exact acN
theorem Day.l_sub (d:Day) (f:Nat→Nat) (P:Nat→Prop) (h h':Nat→Rat) (c:Cl):d.l f P h' c-d.l f P h c=if c.rk=f c.fr∧P c.fr then d.w c*(h' c.fr-h c.fr) else 0:=by
 unfold Day.l
 by_cases h1:c.rk<f c.fr
 ·rw[if_pos h1,if_pos h1,if_neg (by omega)];grind
 ·rw[if_neg h1,if_neg h1]
  split<;>grind
theorem CX {d:Day} {f:Nat→Nat} {g:Nat→Rat} (hi:Inv d f g) (hd:d.OK) {P:Nat→Prop} (hP:∀ i,P i→i<d.n∧f i<10) (ho:∀ C:Nat→Prop,(∃ i,C i)→(∀ i,C i→P i)→¬ d.closed f C) {h h':Nat→Rat}
  (e:∀ i,i<d.n→h i=d.into (d.l f P h) i) (e':∀ i,i<d.n→h' i=d.into (d.l f P h') i):∀ i,i<d.n→h i=h' i:=by
 have main:∀ h h':Nat→Rat,(∀ i,i<d.n→h i=d.into (d.l f P h) i)→(∀ i,i<d.n→h' i=d.into (d.l f P h') i)→∀ i,i<d.n→0≤h' i-h i:=by
  intro h h' e e';refine ml hi hd hP ho (fun i=>h' i-h i) fun i hin=>?_
  rw[e i hin,e' i hin,d.into_sub];refine jD (cI fun c hc=>?_);rw[d.l_sub]
 intro i hin;have h1:=main h h' e e' i hin;have h2:=main h' h e' e i hin;grind
theorem B5 {d:Day} {f:Nat→Nat} {g:Nat→Rat} (hi:Inv d f g) (hd:d.OK) {P:Nat→Prop} (hP:∀ i,P i→i<d.n∧f i<10) (ho:∀ C:Nat→Prop,(∃ i,C i)→(∀ i,C i→P i)→¬ d.closed f C) (x:Nat→Rat)
  (hx:∀ i,i<d.n→x i=sumC d.cl fun c=>if c.to=(i:Int) then (if c.rk=f c.fr∧P c.fr then d.w c*x c.fr else 0) else 0):∀ i,i<d.n→x i=0:=by
 intro i hin;have h1:=ml hi hd hP ho x (fun i hin=>jD (hx i hin).symm) i hin;have h2:=ml hi hd hP ho (fun i => -x i) (fun i hin=>?_) i hin
 ·grind
 ·rw[hx i hin]
  refine jD ?_;have:∀ F:Cl→Rat,-(sumC d.cl F)=sumC d.cl fun c=>(-1)*F c:=fun F=>by rw[ra];grind
  rw[this];refine cI fun c hc=>?_
  split
  ·split<;>grind
  ·grind
theorem Day.l_le_q {d:Day} (hd:d.OK) {f:Nat→Nat} {P:Nat→Prop} {h g:Nat→Rat} (hle:∀ i,i<d.n→h i≤g i) {c:Cl} (hc:c∈d.cl):d.l f P h c≤d.q f g c:=by
 unfold Day.l Day.q
 by_cases h1:c.rk<f c.fr
 ·rw[if_pos h1,if_pos h1];exact acN
 ·rw[if_neg h1,if_neg h1]
  by_cases h2:c.rk=f c.fr
  ·rw[if_pos h2]
   have hw:=hd.w_nonneg hc
   by_cases h3:P c.fr
   ·rw[if_pos ⟨h2,h3⟩]
    refine kT hw (acY ?_ (xF _));have:=hle _ (hd.fr c hc);grind
   ·rw[if_neg fun h=>h3 h.2]
    exact dE hw (jA _)
  ·rw[if_neg fun h=>h2 h.1,if_neg h2];exact acN
theorem Pay.start {d:Day} (hd:d.OK) {f:Nat→Nat} {g:Nat→Rat} (hi:Inv d f g) {h:Nat→Rat} (hs:∀ i,i<d.n→h i=d.into (d.l f (fun _=>False) h) i):Pay d f g (fun _=>False) h :=
 ⟨fun i h=>h.elim,fun C ⟨i,h⟩ h'=>(h' i h).elim,hs,fun i hin=>by
  rw[hs i hin];refine acY (d.into_le (b:=d.q f g) (fun c hc=>?_) i) (hi.sup i hin);unfold Day.l Day.q
  by_cases h1:c.rk<f c.fr
  ·rw[if_pos h1,if_pos h1];exact acN
  ·rw[if_neg h1,if_neg h1,if_neg fun h=>h.2]
   split
   ·exact dE (hd.w_nonneg hc) (jA _)
   ·exact acN,fun i h=>h.elim⟩
def lA (d:Day) (f:Nat→Nat) (P:Nat→Prop) (h:Nat→Rat) (i:Nat):Prop:=P i∨(i<d.n∧f i<10∧d.U i (f i)<h i)
theorem Pay.next_fallen {d:Day} {f:Nat→Nat} {g:Nat→Rat} {P:Nat→Prop} {h:Nat→Rat} (hp:Pay d f g P h):∀ i,lA d f P h i→i<d.n∧f i<10:=fun i hn=>hn.elim (hp.fallen i) fun h=>⟨h.1,h.2.1⟩
theorem Pay.next_gt {d:Day} {f:Nat→Nat} {g:Nat→Rat} {P:Nat→Prop} {h:Nat→Rat} (hp:Pay d f g P h):∀ i,lA d f P h i→d.U i (f i)<h i:=fun i hn=>hn.elim (hp.ge i) fun h=>h.2.2
theorem Pay.next_open {d:Day} (hd:d.OK) {f:Nat→Nat} {g:Nat→Rat} (hi:Inv d f g) {P:Nat→Prop} {h:Nat→Rat} (hp:Pay d f g P h):∀ C:Nat→Prop,(∃ i,C i)→(∀ i,C i→lA d f P h i)→¬ d.closed f C:=by
 intro C h1 h2 h3;have hf:∀ i,C i→i<d.n∧f i<10:=fun i hc=>hp.next_fallen i (h2 i hc)
 have hfl:=hi.flow hd h1 hf h3 (d.l f P h) (fun k=>if P k then h k-d.U k (f k) else 0) (fun k _ hk=>by
  try dsimp only
  split
  ·have:=hp.ge k (by assumption);grind
  ·exact acN) fun c hc _=>by
   by_cases k3:C c.fr
   ·rw[mO k3]
    by_cases k1:c.rk<f c.fr
    ·rw[Day.l_lt k1,if_pos k1,if_neg (fun h=>by have:=h.2;omega)];grind
    ·rw[if_neg k1]
     by_cases k2:c.rk=f c.fr
     ·have k5:C c.fr∧c.rk=f c.fr:=⟨k3,k2⟩
      rw[if_pos k5]
      by_cases k4:P c.fr
      ·rw[Day.l_eq k2 k4,if_pos k4,k2];grind
      ·rw[Day.l_no k1 (fun h=>k4 h.2),if_neg k4];grind
     ·rw[Day.l_no k1 (fun h=>k2 h.1),if_neg fun h=>k2 h.2];grind
   ·rw[mM k3,if_neg fun h=>k3 h.1]
    have:=Day.l_le_q hd (P:=P) (f:=f) hp.le hc;grind
 have e:d.sumIn C (d.into (d.l f P h))=d.sumIn C h:=Day.sumIn_congr fun i hin _=>(hp.sys i hin).symm
 rw[e] at hfl
 have:d.sumIn C (fun i=>d.U i (f i)+if P i then h i-d.U i (f i) else 0)≤d.sumIn C h:=by
  refine Day.sumIn_le fun i hin hc=>?_
  have:=hp.next_gt i (h2 i hc)
  split<;>grind
 grind
theorem Pay.next {d:Day} (hd:d.OK) {f:Nat→Nat} {g:Nat→Rat} (hi:Inv d f g) {P:Nat→Prop} {h h':Nat→Rat} (hp:Pay d f g P h) (hs:∀ i,i<d.n→h' i=d.into (d.l f (lA d f P h) h') i):Pay d f g (lA d f P h) h':=by
 have ho:=hp.next_open hd hi
 have hup:∀ i,i<d.n→0≤h' i-h i:=by
  refine ml hi hd hp.next_fallen ho (fun i=>h' i-h i) fun i hin=>?_
  rw[hs i hin,hp.sys i hin,d.into_sub];refine ng fun c hc=>?_
  have hw:=hd.w_nonneg hc
  split
  ·unfold Day.l
   by_cases h1:c.rk<f c.fr
   ·rw[if_pos h1,if_pos h1,if_neg (by omega)];grind
   ·rw[if_neg h1,if_neg h1]
    by_cases h2:c.rk=f c.fr
    ·by_cases h3:lA d f P h c.fr
     ·rw[if_pos ⟨h2,h3⟩,if_pos ⟨h2,h3⟩]
      by_cases h4:P c.fr
      ·rw[if_pos ⟨h2,h4⟩];grind
      ·rw[if_neg fun h=>h4 h.2]
       have h5:=hp.next_gt _ h3;have:=dE hw (show 0≤h c.fr-d.U c.fr c.rk by rw[h2];grind);grind
     ·rw[if_neg fun h=>h3 h.2,if_neg fun h=>h3 h.2,if_neg fun h=>h3 (.inl h.2)];grind
    ·rw[if_neg fun h=>h2 h.1,if_neg fun h=>h2 h.1,if_neg fun h=>h2 h.1];grind
  ·exact acN
 have hle:∀ i,i<d.n→0≤g i-h' i:=by
  refine ml hi hd hp.next_fallen ho (fun i=>g i-h' i) fun i hin=>?_
  refine acY ?_ (show d.into (d.q f g) i-h' i≤g i-h' i by have:=hi.sup i hin;grind);rw[hs i hin,d.into_sub];refine ng fun c hc=>?_
  have hw:=hd.w_nonneg hc
  split
  ·unfold Day.l Day.q
   by_cases h1:c.rk<f c.fr
   ·rw[if_pos h1,if_pos h1,if_neg (by omega)];grind
   ·rw[if_neg h1,if_neg h1]
    by_cases h2:c.rk=f c.fr
    ·rw[if_pos h2]
     by_cases h3:lA d f P h c.fr
     ·rw[if_pos ⟨h2,h3⟩,if_pos ⟨h2,h3⟩]
      have:=kT hw (xF (g c.fr-d.U c.fr c.rk));grind
     ·rw[if_neg fun h=>h3 h.2,if_neg fun h=>h3 h.2]
      have:=dE hw (jA (g c.fr-d.U c.fr c.rk));grind
    ·rw[if_neg fun h=>h2 h.1,if_neg h2,if_neg fun h=>h2 h.1];grind
  ·exact acN
 exact⟨hp.next_fallen,ho,hs,fun i hin=>by have:=hle i hin;grind,fun i hn=>by
  have h1:=hp.next_gt i hn;have h2:=hup i (hp.next_fallen i hn).1;grind⟩
theorem Pay.stop {d:Day} (hd:d.OK) {f:Nat→Nat} {g:Nat→Rat} {P:Nat→Prop} {h:Nat→Rat} (hp:Pay d f g P h) (hi:Inv d f g) (hstop:∀ i,i<d.n→f i<10→d.U i (f i)<h i→P i):∀ i,i<d.n→h i=d.into (d.q f h) i:=by
 intro i hin;rw[hp.sys i hin];refine d.into_congr (fun c hc=>?_) i;unfold Day.l Day.q
 by_cases h1:c.rk<f c.fr
 ·rw[if_pos h1,if_pos h1]
 ·rw[if_neg h1,if_neg h1]
  by_cases h2:c.rk=f c.fr
  ·rw[if_pos h2]
   by_cases h3:P c.fr
   ·rw[if_pos ⟨h2,h3⟩,ka]
    have:=hp.ge _ h3;rw[h2];grind
   ·rw[if_neg fun h=>h3 h.2,gk]
    ·grind
    ·apply acQ
     intro hn;refine h3 (hstop _ (hd.fr c hc) (by rw[←h2];exact hd.rk c hc) ?_);rw[←h2];grind
  ·rw[if_neg fun h=>h2 h.1,if_neg h2]
end Go.Mini
namespace Go.Mini
open Classical
noncomputable def Day.pay (d:Day) (h:Nat→Rat) (c:Cl):Rat:=if d.U c.fr (c.rk+1)≤h c.fr then c.am else d.w c*pos (h c.fr-d.U c.fr c.rk)
theorem Day.OK.w_le {d:Day} (hd:d.OK) {c:Cl} (hc:c∈d.cl) {x:Rat} (h:x≤d.S c.fr c.rk):d.w c*x≤c.am:=by
 have h0:=hd.am c hc;have h1:=hd.am_le hc
 by_cases hS:0<d.S c.fr c.rk
 ·have:=kT (hd.w_nonneg hc) h
  rw[Day.w_S hS] at this;exact this
 ·rw[Day.w_zero (by grind),acV];exact h0
theorem Day.OK.pay_le {d:Day} (hd:d.OK) (h:Nat→Rat) {c:Cl} (hc:c∈d.cl):d.pay h c≤c.am:=by
 unfold Day.pay
 split
 ·exact acN
 ·rename_i hn
  refine hd.w_le hc ?_;rw[d.U_succ] at hn;have:=hd.S_nonneg c.fr c.rk;unfold pos
  split<;>grind
theorem Day.OK.pay_nonneg {d:Day} (hd:d.OK) (h:Nat→Rat) {c:Cl} (hc:c∈d.cl):0≤d.pay h c:=by
 unfold Day.pay
 split
 ·exact hd.am c hc
 ·exact dE (hd.w_nonneg hc) (jA _)
theorem Day.OK.q_nonneg {d:Day} (hd:d.OK) (f:Nat→Nat) (h:Nat→Rat) {c:Cl} (hc:c∈d.cl):0≤d.q f h c:=by
 unfold Day.q
 split
 ·exact hd.am c hc
 ·split
  ·exact dE (hd.w_nonneg hc) (jA _)
  ·exact acN
theorem Day.OK.into_nonneg {d:Day} (hd:d.OK) {a:Cl→Rat} (h:∀ c∈d.cl,0≤a c) {i:Nat} (hi:i<d.n):0≤d.into a i:=by
 unfold Day.into;have h1:=hd.cash i hi
 have:=dA (l:=d.cl) (F:=fun c=>if c.to=(i:Int) then a c else 0) fun c hc=>by
  try dsimp only
  split
  ·exact h c hc
  ·exact acN
 grind
theorem Day.OK.q_mono {d:Day} (hd:d.OK) {f:Nat→Nat} {h g:Nat→Rat} {c:Cl} (hc:c∈d.cl) (hle:h c.fr≤g c.fr):d.q f h c≤d.q f g c:=by
 unfold Day.q
 split
 ·exact acN
 ·split
  ·exact kT (hd.w_nonneg hc) (zZ (by grind))
  ·exact acN
def CK (d:Day) (f:Nat→Nat) (h:Nat→Rat) (f':Nat→Nat):Prop:=(∀ i,f' i≤10)∧(∀ i,i<d.n→h i<d.U i (f i)→f' i<f i∧d.U i (f' i)≤h i∧h i<d.U i (f' i+1))∧∀ i,i<d.n→d.U i (f i)≤h i→f' i=f i
theorem D0 {d:Day} (hd:d.OK) {f f':Nat→Nat} {h:Nat→Rat} (hf:CK d f h f') {c:Cl} (hc:c∈d.cl):d.q f' h c≤d.q f h c:=by
 obtain⟨-,h1,h2⟩:=hf;have hfr:=hd.fr c hc
 by_cases hF:h c.fr<d.U c.fr (f c.fr)
 ·obtain⟨k1,k2,k3⟩:=h1 _ hfr hF
  unfold Day.q
  by_cases r1:c.rk<f' c.fr
  ·rw[if_pos r1,if_pos (by omega)];exact acN
  ·rw[if_neg r1]
   by_cases r2:c.rk=f' c.fr
   ·rw[if_pos r2,if_pos (by omega)]
    rw[←r2] at k2 k3;rw[d.U_succ] at k3;exact hd.w_le hc (by rw[ka (by grind)];grind)
   ·rw[if_neg r2]
    exact hd.q_nonneg f h hc
 ·have:=h2 _ hfr (by grind)
  unfold Day.q;rw[this];exact acN
theorem Inv.fall {d:Day} (hd:d.OK) {f f':Nat→Nat} {g h:Nat→Rat} (hi:Inv d f g) (hfix:∀ i,i<d.n→h i=d.into (d.q f h) i) (hle:∀ i,i<d.n→h i≤g i) (hf:CK d f h f'):Inv d f' h:=by
 have hlo:∀ i,i<d.n→f' i<10→d.U i (f' i)≤h i:=by
  intro i hin hf1
  by_cases hF:h i<d.U i (f i)
  ·exact (hf.2.1 i hin hF).2.1
  ·rw[hf.2.2 i hin (by grind)];grind
 have hhi:∀ i,i<d.n→f' i<10→h i<d.U i (f' i+1):=by
  intro i hin hf1
  by_cases hF:h i<d.U i (f i)
  ·exact (hf.2.1 i hin hF).2.2
  ·have e:=hf.2.2 i hin (by grind)
   rw[e] at hf1 ⊢;have:=hi.hi i hin hf1;have:=hle i hin;grind
 have hS:∀ i,i<d.n→f' i<10→0<d.S i (f' i):=by
  intro i hin hf1;have h1:=hlo i hin hf1;have h2:=hhi i hin hf1;rw[d.U_succ] at h2;grind
 refine⟨hf.1,fun i hin=>?_,hlo,hhi,fun C h1 h2 h3=>?_⟩
 ·exact acY (d.into_le (fun c hc=>D0 hd hf hc) i) (jD (hfix i hin).symm)
 ·have hC:∀ i,C i→i<d.n:=fun i hc=>(h2 i hc).1
  by_cases hex:∃ k,C k∧h k<d.U k (f k)
  ·obtain⟨k0,hk0,hF⟩:=hex
   have hk0n:=hC k0 hk0;obtain⟨b1,b2,b3⟩:=hf.2.1 k0 hk0n hF;have hs0:=hS k0 hk0n (h2 k0 hk0).2;obtain⟨c0,hc0,hp0⟩:=rA hs0
   have hc0':c0.fr=k0∧c0.rk=f' k0∧0<c0.am:=by
    by_cases hh:c0.fr=k0∧c0.rk=f' k0
    ·rw[if_pos hh] at hp0;exact⟨hh.1,hh.2,hp0⟩
    ·rw[if_neg hh] at hp0;exact absurd hp0 (by grind)
   obtain⟨a1,a2,a3⟩:=hc0';have e1:=Day.sumIn_into hC (d.q f h);have e2:=Day.sumIn_into hC (d.q f' (d.cap f' h C));have e3:d.sumIn C (d.into (d.q f h))=d.sumIn C h:=Day.sumIn_congr fun i hin _=>(hfix i hin).symm
   have e4:=hd.sum_fr C f' (fun k hk=>hS k (hC k hk) (h2 k hk).2) fun k=>h k-d.U k (f' k)
   have e5:d.sumIn C (fun k=>h k-d.U k (f' k))=sumQ d.n fun k=>if C k then h k-d.U k (f' k) else 0:=rfl
   rw[←e5,d.sumIn_sub] at e4
   have e6:sumC d.cl (fun c=>(if inC C c then d.q f' (d.cap f' h C) c else 0)+(if C c.fr∧c.rk=f' c.fr then d.w c*(h c.fr-d.U c.fr (f' c.fr)) else 0))<sumC d.cl (fun c=>if inC C c then d.q f h c else 0):=by
    refine L5 (fun c hc=>?_) hc0 ?_
    ·have hfr:=hd.fr c hc
     by_cases hin:inC C c
     ·rw[if_pos hin,if_pos hin]
      by_cases hcC:C c.fr
      ·rw[mO hcC]
       by_cases r1:c.rk<f' c.fr
       ·rw[if_pos r1,if_neg (by omega)]
        have:c.rk<f c.fr:=by
         by_cases hF:h c.fr<d.U c.fr (f c.fr)
         ·have:=(hf.2.1 _ hfr hF).1;omega
         ·rw[←hf.2.2 _ hfr (by grind)];exact r1
        unfold Day.q;rw[if_pos this];grind
       ·rw[if_neg r1]
        by_cases r2:c.rk=f' c.fr
        ·rw[if_pos ⟨hcC,r2⟩]
         by_cases hF:h c.fr<d.U c.fr (f c.fr)
         ·obtain⟨k1,k2,k3⟩:=hf.2.1 _ hfr hF
          unfold Day.q;rw[if_pos (by omega)];rw[d.U_succ] at k3;have:=hd.w_le hc (x:=h c.fr-d.U c.fr (f' c.fr)) (by rw[r2];grind);grind
         ·have e:=hf.2.2 _ hfr (by grind)
          rw[e] at r1 r2 ⊢;unfold Day.q;rw[if_neg r1,if_pos r2,←r2];have:=kT (hd.w_nonneg hc) (xF (h c.fr-d.U c.fr c.rk));grind
        ·rw[if_neg fun h=>r2 h.2]
         have:=hd.q_nonneg f h hc;grind
      ·rw[mM hcC,if_neg fun h=>hcC h.1]
       have:=D0 hd hf hc;grind
     ·rw[if_neg hin,if_neg hin]
      by_cases hcC:C c.fr∧c.rk=f' c.fr
      ·rw[if_pos hcC]
       have:c.am=0:=by
        have h0:=hd.am c hc
        by_cases hp:0<c.am
        ·exact absurd (h3 c hc hcC.1 hcC.2 hp) hin
        ·grind
       rw[Day.w_zero this];grind
      ·rw[if_neg hcC];grind
    ·have hcC:C c0.fr:=by rw[a1];exact hk0
     have hrk:c0.rk=f' c0.fr:=by rw[a1];exact a2
     have hin:=h3 c0 hc0 hcC hrk a3;rw[if_pos hin,if_pos hin,mO hcC,if_neg (by omega),if_pos ⟨hcC,hrk⟩];unfold Day.q;rw[if_pos (by rw[a1];omega)];have hw:=hd.w_pos hc0 a3;have hws:=d.w_S (c:=c0) (by rw[a1,a2];exact hs0);rw[d.U_succ] at b3;rw[←a1,←hrk] at b3;rw[←hrk];have:0<d.w c0*(d.S c0.fr c0.rk-(h c0.fr-d.U c0.fr c0.rk)):=acU hw (by rw[a1] at b3 ⊢;grind);grind
   rw[mS,e4] at e6;grind
  ·have hsame:∀ k,C k→f' k=f k:=fun k hk=>hf.2.2 k (hC k hk) (by
    apply acQ;intro hn;exact hex ⟨k,hk,by grind⟩)
   have k1:=hi.cl C h1 (fun i hc=>⟨hC i hc,by rw[←hsame i hc];exact (h2 i hc).2⟩) (fun c hc hcC hrk ham=>h3 c hc hcC (by rw[hsame _ hcC];exact hrk) ham);have k2:d.sumIn C (fun i=>d.U i (f' i))=d.sumIn C fun i=>d.U i (f i):=Day.sumIn_congr fun i _ hc=>by rw[hsame i hc]
   rw[k2]
   have k3:d.sumIn C (d.into (d.q f' (d.cap f' h C)))≤d.sumIn C (d.into (d.q f (d.cap f g C))):=by
    refine Day.sumIn_le fun i _ _=>d.into_le (fun c hc=>?_) i
    by_cases hcC:C c.fr
    ·rw[mO hcC,mO hcC,hsame _ hcC];exact acN
    ·rw[mM hcC,mM hcC]
     exact acY (D0 hd hf hc) (hd.q_mono hc (hle _ (hd.fr c hc)))
   grind
noncomputable def Day.phi (d:Day) (h:Nat→Rat) (i:Nat):Rat:=d.into (d.pay h) i
theorem Lo {d:Day} (hd:d.OK) {f:Nat→Nat} {g z:Nat→Rat} (hi:Inv d f g) (hz:∀ i,i<d.n→z i≤g i) {c:Cl} (hc:c∈d.cl):d.pay z c≤d.q f z c:=by
 have hfr:=hd.fr c hc;have hrk:=hd.rk c hc;unfold Day.q
 by_cases r1:c.rk<f c.fr
 ·rw[if_pos r1];exact hd.pay_le z hc
 ·rw[if_neg r1]
  have h10:f c.fr<10:=by omega
  have h1:=hi.hi _ hfr h10;have h2:=hz _ hfr
  by_cases r2:c.rk=f c.fr
  ·rw[if_pos r2]
   unfold Day.pay;rw[if_neg (by rw[r2];grind)];exact acN
  ·rw[if_neg r2]
   have h3:=hd.U_mono c.fr (r:=f c.fr+1) (s:=c.rk) (by omega);have h4:=hd.U_mono c.fr (r:=c.rk) (s:=c.rk+1) (by omega);unfold Day.pay;rw[if_neg (by grind),gk (by grind),acW];exact acN
theorem Inv.above {d:Day} (hd:d.OK) {f:Nat→Nat} {g h z:Nat→Rat} (hi:Inv d f g) (hfix:∀ i,i<d.n→h i=d.into (d.q f h) i) (hle:∀ i,i<d.n→h i≤g i) (hz:∀ i,i<d.n→z i≤d.into (d.q f z) i):∀ i,i<d.n→z i≤h i:=by
 intro i0 hi0;apply acQ;intro hneg;obtain⟨C,hCd⟩:∃ C:Nat→Prop,∀ i,C i↔i<d.n∧h i<z i:=⟨fun i=>i<d.n∧h i<z i,fun _=>Iff.rfl⟩
 obtain⟨Cf,hFd⟩:∃ C':Nat→Prop,∀ i,C' i↔C i∧f i<10:=⟨fun i=>C i∧f i<10,fun _=>Iff.rfl⟩
 have hC:∀ i,C i→i<d.n:=fun i h=>((hCd i).1 h).1
 have hCl:∀ i,C i→h i<z i:=fun i h=>((hCd i).1 h).2
 have hne:∃ i,C i:=⟨i0,(hCd i0).2 ⟨hi0,by grind⟩⟩
 have e1:=yy C hC d.cl fun c=>d.q f z c-d.q f h c
 have e2:=hd.sum_fr Cf f (fun k hk=>hi.S_pos (hC k ((hFd k).1 hk).1) ((hFd k).1 hk).2) fun k=>z k-h k
 have e3:d.sumIn C (fun i=>z i-h i)≤sumQ d.n fun i=>if C i then sumC d.cl (fun c=>if c.to=(i:Int) then d.q f z c-d.q f h c else 0) else 0:=by
  refine qF fun k hk=>?_
  by_cases hc:C k
  ·rw[if_pos hc,if_pos hc,←d.into_sub,←hfix k hk]
   have h1:=hz k hk;grind
  ·rw[if_neg hc,if_neg hc];exact acN
 rw[e1] at e3
 have e4:sumQ d.n (fun k=>if Cf k then z k-h k else 0)≤d.sumIn C (fun i=>z i-h i):=by
  refine qF fun k hk=>?_
  by_cases hc:C k
  ·rw[if_pos hc]
   have:=hCl k hc
   split<;>grind
  ·rw[if_neg hc,if_neg fun h=>hc ((hFd k).1 h).1];exact acN
 have hpt:∀ c∈d.cl,0≤(if Cf c.fr∧c.rk=f c.fr then d.w c*(z c.fr-h c.fr) else 0)-(if inC C c then d.q f z c-d.q f h c else 0):=by
  intro c hc;have hw:=hd.w_nonneg hc;have hfr:=hd.fr c hc;have hrk:=hd.rk c hc
  by_cases h1:Cf c.fr∧c.rk=f c.fr
  ·rw[if_pos h1]
   have h2:0≤d.w c*(z c.fr-h c.fr):=dE hw (by have:=hCl _ ((hFd _).1 h1.1).1;grind)
   have h3:d.q f z c-d.q f h c≤d.w c*(z c.fr-h c.fr):=by
    unfold Day.q;rw[if_neg (by omega),if_pos h1.2,if_neg (by omega),if_pos h1.2]
    have h4:pos (z c.fr-d.U c.fr c.rk)-pos (h c.fr-d.U c.fr c.rk)≤z c.fr-h c.fr:=by
     have:=hCl _ ((hFd _).1 h1.1).1;unfold pos
     split<;>split<;>grind
    have:=kT hw h4;grind
   split<;>grind
  ·rw[if_neg h1]
   have h3:d.q f z c-d.q f h c≤0:=by
    unfold Day.q
    by_cases r1:c.rk<f c.fr
    ·rw[if_pos r1,if_pos r1];grind
    ·rw[if_neg r1,if_neg r1]
     by_cases r2:c.rk=f c.fr
     ·rw[if_pos r2,if_pos r2]
      have h4:z c.fr≤h c.fr:=by
       apply acQ;intro hn;exact h1 ⟨(hFd _).2 ⟨(hCd _).2 ⟨hfr,by grind⟩,by omega⟩,r2⟩
      have:=kT hw (zZ (show z c.fr-d.U c.fr c.rk≤h c.fr-d.U c.fr c.rk by grind));grind
     ·rw[if_neg r2,if_neg r2];grind
   split<;>grind
 have hnull:=sC hpt (by rw[od,e2];grind)
 have hCC:∀ k,C k→f k<10:=by
  have:sumQ d.n (fun k=>(if C k then z k-h k else 0)-(if Cf k then z k-h k else 0))≤0:=by
   rw[mw];have:0≤sumC d.cl fun c=>(if Cf c.fr∧c.rk=f c.fr then d.w c*(z c.fr-h c.fr) else 0)-(if inC C c then d.q f z c-d.q f h c else 0):=dA hpt
   rw[od,e2] at this;have h5:d.sumIn C (fun i=>z i-h i)=sumQ d.n fun k=>if C k then z k-h k else 0:=rfl
   grind
  have hn:=HB (fun k hk=>by
   try dsimp only
   by_cases hc:C k
   ·rw[if_pos hc]
    have:=hCl k hc
    split<;>grind
   ·rw[if_neg hc,if_neg fun h=>hc ((hFd k).1 h).1];grind) this
  intro k hk;apply acQ;intro h10;have:=hn k (hC k hk)
  try dsimp only at this
  rw[if_pos hk,if_neg fun h=>h10 ((hFd k).1 h).2] at this
  have:=hCl k hk;grind
 have hin:∀ c∈d.cl,C c.fr→c.rk=f c.fr→0<c.am→inC C c∧d.U c.fr c.rk≤h c.fr:=by
  intro c hc hcC hrk ham;have h0:=hnull c hc;have hw:=hd.w_pos hc ham;have hlt:=hCl _ hcC
  try dsimp only at h0
  rw[if_pos ⟨(hFd _).2 ⟨hcC,hCC _ hcC⟩,hrk⟩] at h0
  by_cases hin:inC C c
  ·refine⟨hin,?_⟩
   rw[if_pos hin] at h0;unfold Day.q at h0;rw[if_neg (by omega),if_pos hrk,if_neg (by omega),if_pos hrk] at h0;apply acQ;intro hn;rw[gk (x:=h c.fr-d.U c.fr c.rk) (by grind)] at h0
   have h4:0<z c.fr-h c.fr-pos (z c.fr-d.U c.fr c.rk):=by
    unfold pos
    split<;>grind
   have:=acU hw h4;grind
  ·rw[if_neg hin] at h0
   have:0<d.w c*(z c.fr-h c.fr):=acU hw (by grind);grind
 have hU:∀ k,C k→d.U k (f k)≤h k:=by
  intro k hk;have hs:=hi.S_pos (hC k hk) (hCC k hk);obtain⟨c0,hc0,hp0⟩:=rA hs
  by_cases hh:c0.fr=k∧c0.rk=f k
  ·rw[if_pos hh] at hp0
   have:=(hin c0 hc0 (by rw[hh.1];exact hk) (by rw[hh.1];exact hh.2) hp0).2
   rwa [hh.1,hh.2] at this
  ·rw[if_neg hh] at hp0;exact absurd hp0 (by grind)
 have hfl:=hi.flow hd hne (fun i hc=>⟨hC i hc,hCC i hc⟩) (fun c hc hcC hrk ham=>(hin c hc hcC hrk ham).1) (d.q f h) (fun k=>h k-d.U k (f k)) (fun k _ hk=>by have:=hU k hk;grind) fun c hc _=>by
  by_cases hcC:C c.fr
  ·rw[mO hcC]
   unfold Day.q
   by_cases r1:c.rk<f c.fr
   ·rw[if_pos r1,if_pos r1,if_neg (by omega)];grind
   ·rw[if_neg r1,if_neg r1]
    by_cases r2:c.rk=f c.fr
    ·rw[if_pos r2,if_pos ⟨hcC,r2⟩,r2,ka (by have:=hU _ hcC;grind)];grind
    ·rw[if_neg r2,if_neg fun h=>r2 h.2];grind
  ·rw[mM hcC,if_neg fun h=>hcC h.1]
   have:=hd.q_mono (f:=f) hc (hle _ (hd.fr c hc));grind
 have h6:d.sumIn C (d.into (d.q f h))=d.sumIn C h:=Day.sumIn_congr fun i hin _=>(hfix i hin).symm
 have h7:d.sumIn C (fun i=>d.U i (f i)+(h i-d.U i (f i)))=d.sumIn C h:=Day.sumIn_congr fun i _ _=>by grind
 rw[h6,h7] at hfl;exact absurd hfl (by grind)
theorem Inv.final {d:Day} (hd:d.OK) {f:Nat→Nat} {g h:Nat→Rat} (hi:Inv d f g) (hfix:∀ i,i<d.n→h i=d.into (d.q f h) i) (hle:∀ i,i<d.n→h i≤g i) (hno:∀ i,i<d.n→d.U i (f i)≤h i):(∀ i,i<d.n→h i=d.phi h i)∧∀ i,i<d.n→(f i<10↔h i<d.U i 10):=by
 constructor
 ·intro i hin
  rw[hfix i hin];unfold Day.phi;have:∀ j,j<d.n→h j=d.into (d.q f h) j:=hfix;refine d.into_congr (fun c hc=>?_) i;have hfr:=hd.fr c hc;have hrk:=hd.rk c hc;have h0:=hno _ hfr;unfold Day.q Day.pay
  by_cases r1:c.rk<f c.fr
  ·have:=hd.U_mono c.fr (r:=c.rk+1) (s:=f c.fr) (by omega)
   rw[if_pos r1,if_pos (by grind)]
  ·rw[if_neg r1]
   have h10:f c.fr<10:=by omega
   have h1:=hi.hi _ hfr h10;have h2:=hle _ hfr
   by_cases r2:c.rk=f c.fr
   ·rw[if_pos r2,if_neg (by rw[r2];grind)]
   ·have h3:=hd.U_mono c.fr (r:=f c.fr+1) (s:=c.rk) (by omega)
    have h4:=hd.U_mono c.fr (r:=c.rk) (s:=c.rk+1) (by omega);rw[if_neg r2,if_neg (by grind),gk (by grind),acW]
 ·intro i hin
  constructor
  ·intro h10
   have h1:=hi.hi _ hin h10;have h2:=hle _ hin;have h3:=hd.U_mono i (r:=f i+1) (s:=10) (by omega);grind
  ·intro h1
   apply acQ;intro h2;have h3:=hi.le i;have h4:f i=10:=by omega
   have h5:=hno i hin;rw[h4] at h5;grind
end Go.Mini
namespace Go.Mini
open Classical
def IsTop (d:Day) (f:Nat→Nat) (h:Nat→Rat):Prop:=∃ g,Inv d f g∧(∀ i,i<d.n→h i=d.into (d.q f h) i)∧∀ i,i<d.n→h i≤g i
theorem IsTop.unique {d:Day} (hd:d.OK) {f:Nat→Nat} {h h':Nat→Rat} (a:IsTop d f h) (b:IsTop d f h'):∀ i,i<d.n→h i=h' i:=by
 obtain⟨g,h1,h2,h3⟩:=a;obtain⟨g',k1,k2,k3⟩:=b;intro i hin;have e1:=h1.above hd h2 h3 (z:=h') (fun i hi=>jD (k2 i hi)) i hin;have e2:=k1.above hd k2 k3 (z:=h) (fun i hi=>jD (h2 i hi)) i hin;grind
noncomputable def Day.fallRank (d:Day) (h:Nat→Rat) (i:Nat):Nat→Nat
 | 0=>10
 | k+1=>if h i<d.U i (10-(k+1)+1) then 10-(k+1) else Day.fallRank d h i k
theorem lT {d:Day} (hd:d.OK) {h:Nat→Rat} {i:Nat}:∀ k,k≤10→d.U i (10-k)≤h i→(d.fallRank h i k=10∧d.U i 10≤h i)∨(10-k≤d.fallRank h i k∧d.fallRank h i k<10∧d.U i (d.fallRank h i k)≤h i∧h i<d.U i (d.fallRank h i k+1))
 | 0,_,h0 => .inl ⟨rfl,h0⟩
 | k+1,hk,h0=>by
  unfold Day.fallRank
  by_cases h1:h i<d.U i (10-(k+1)+1)
  ·rw[if_pos h1];exact .inr ⟨acX _,by omega,h0,h1⟩
  ·rw[if_neg h1]
   rcases lT hd (h:=h) (i:=i) k (by omega) (by rw[show 10-k=10-(k+1)+1 by omega];grind) with e | ⟨e1,e2⟩
   ·exact .inl e
   ·exact .inr ⟨by omega,e2⟩
noncomputable def Day.fallen (d:Day) (f:Nat→Nat) (h:Nat→Rat) (i:Nat):Nat:=if i<d.n∧h i<d.U i (f i) then d.fallRank h i 10 else f i
theorem xh {d:Day} (hd:d.OK) {f:Nat→Nat} {h:Nat→Rat} (hle:∀ i,f i≤10) (h0:∀ i,i<d.n→0≤h i):CK d f h (d.fallen f h):=by
 have key:∀ i,i<d.n→h i<d.U i (f i)→d.fallRank h i 10<f i∧d.U i (d.fallRank h i 10)≤h i∧h i<d.U i (d.fallRank h i 10+1):=by
  intro i hin hF;have hm:=hd.U_mono i (hle i);rcases lT hd (h:=h) (i:=i) 10 (acX _) (by rw[Nat.sub_self,d.U_zero];exact h0 i hin) with ⟨-,e⟩ | ⟨-,e1,e2,e3⟩
  ·grind
  ·refine⟨?_,e2,e3⟩
   apply acQ;intro hn;have:=hd.U_mono i (r:=f i) (s:=d.fallRank h i 10) (by omega);grind
 refine⟨fun i=>?_,fun i hin hF=>?_,fun i hin hF=>?_⟩
 ·unfold Day.fallen
  split
  ·rename_i hh
   have:=(key i hh.1 hh.2).1;have:=hle i;omega
  ·exact hle i
 ·unfold Day.fallen
  rw[if_pos ⟨hin,hF⟩];exact key i hin hF
 ·unfold Day.fallen
  rw[if_neg fun hh=>by have:=hh.2;grind]
theorem IsTop.fall {d:Day} (hd:d.OK) {f:Nat→Nat} {h:Nat→Rat} (a:IsTop d f h):Inv d (d.fallen f h) h:=by
 obtain⟨g,h1,h2,h3⟩:=a;exact h1.fall hd h2 h3 (xh hd h1.le fun i hin=>by rw[h2 i hin];exact hd.into_nonneg (fun c hc=>hd.q_nonneg f h hc) hin)
theorem IsTop.nonneg {d:Day} (hd:d.OK) {f:Nat→Nat} {h:Nat→Rat} (a:IsTop d f h) {i:Nat} (hin:i<d.n):0≤h i:=by
 obtain⟨g,h1,h2,h3⟩:=a;rw[h2 i hin];exact hd.into_nonneg (fun c hc=>hd.q_nonneg f h hc) hin
noncomputable def Day.top (d:Day) (f:Nat→Nat):Nat→Rat:=if h:∃ x,IsTop d f x then Classical.choose h else fun _=>0
noncomputable def Day.falls (d:Day) (f:Nat→Nat):List Nat:=(acZ d.n).filter fun i=>decide (d.top f i<d.U i (f i))
noncomputable def Day.rounds (d:Day):Nat→(Nat→Nat)→List (List Nat) × (Nat→Nat)
 | 0,f=>([],f)
 | k+1,f=>if d.falls f=[] then ([],f) else (d.falls f::(Day.rounds d k (d.fallen f (d.top f))).1,(Day.rounds d k (d.fallen f (d.top f))).2)
def Reach (d:Day) (f:Nat→Nat):Prop:=∃ g,Inv d f g∧∀ z,(∀ i,i<d.n→z i≤d.phi z i)→∀ i,i<d.n→z i≤g i
theorem Reach.start {d:Day} (hd:d.OK):Reach d fun _=>10:=⟨_,Inv.start hd,fun z hz i hin=>acY (hz i hin) (d.into_le (fun _ hc=>hd.pay_le z hc) i)⟩
def kR:Nat→(Nat→Nat)→Nat
 | 0,_=>0
 | n+1,f=>kR n f+f n
theorem LF {n:Nat} {f g:Nat→Nat} (h:∀ i,i<n→f i≤g i):kR n f≤kR n g:=by
 induction n with
 | zero=>exact acX _
 | succ n ih =>
  have:=ih fun i hi=>h i (by omega)
  have:=h n (by omega);simp only[kR];omega
theorem yw {n:Nat} {f g:Nat→Nat} (h:∀ i,i<n→f i≤g i) {j:Nat} (hj:j<n) (hlt:f j<g j):kR n f<kR n g:=by
 induction n with
 | zero=>omega
 | succ n ih =>
  have h1:=h n (by omega);simp only[kR]
  by_cases hjn:j=n
  ·subst hjn
   have:=LF (n:=j) (f:=f) (g:=g) fun i hi=>h i (by omega)
   omega
  ·have:=ih (fun i hi=>h i (by omega)) (by omega)
   omega
theorem Day.top_spec {d:Day} {f:Nat→Nat} (h:∃ x,IsTop d f x):IsTop d f (d.top f):=by
 unfold Day.top;rw[dif_pos h];exact Classical.choose_spec h
theorem Day.mem_falls {d:Day} {f:Nat→Nat} {i:Nat}:i∈d.falls f↔i<d.n∧d.top f i<d.U i (f i):=by
 unfold Day.falls;rw[List.mem_filter,ac0,decide_eq_true_eq]
section
variable {d:Day} (hd:d.OK) (hex:∀ f,Reach d f→∃ h,IsTop d f h)
include hd hex
theorem HK {f:Nat→Nat} (hr:Reach d f) {z:Nat→Rat} (hz:∀ i,i<d.n→z i≤d.phi z i):∀ i,i<d.n→z i≤d.top f i:=by
 obtain⟨g,h1,h2,h3⟩:=Day.top_spec (hex f hr);obtain⟨g',k1,k2⟩:=hr;have ht:IsTop d f (d.top f):=⟨g,h1,h2,h3⟩
 -- the end of the round below g'
 intro i hin;have hz':=fun k hk=>acY (hz k hk) (d.into_le (fun _ hc=>Lo hd k1 (k2 z hz) hc) k)
 exact h1.above hd h2 h3 hz' i hin
theorem Reach.next {f:Nat→Nat} (hr:Reach d f):Reach d (d.fallen f (d.top f)):=⟨d.top f,(Day.top_spec (hex f hr)).fall hd,fun z hz=>HK hd hex hr hz⟩
theorem ss {f:Nat→Nat} (hr:Reach d f) (hne:d.falls f≠[]):kR d.n (d.fallen f (d.top f))<kR d.n f:=by
 obtain⟨i,hi⟩:=List.exists_mem_of_ne_nil _ hne;obtain⟨h1,h2⟩:=Day.mem_falls.1 hi;have ht:=Day.top_spec (hex f hr);obtain⟨g,k1,-⟩:=ht;have hf:=xh hd k1.le (h:=d.top f) fun i hin=>(Day.top_spec (hex f hr)).nonneg hd hin
 refine yw (fun j hj=>?_) h1 (hf.2.1 i h1 h2).1
 by_cases hF:d.top f j<d.U j (f j)
 ·have:=(hf.2.1 j hj hF).1;omega
 ·rw[hf.2.2 j hj (by grind)];exact acX _
theorem vd:∀ k (f:Nat→Nat),Reach d f→kR d.n f≤k→Reach d (d.rounds k f).2∧d.falls (d.rounds k f).2=[]
 | 0,f,hr,hk=>by
  refine⟨hr,?_⟩;apply acQ;intro hne;have:=ss hd hex hr hne;omega
 | k+1,f,hr,hk=>by
  unfold Day.rounds
  by_cases hne:d.falls f=[]
  ·rw[if_pos hne];exact⟨hr,hne⟩
  ·rw[if_neg hne]
   have:=ss hd hex hr hne;exact vd k _ (hr.next hd hex) (by omega)
end
theorem Day.rounds_stop (d:Day) {f:Nat→Nat} (h:d.falls f=[]):∀ k,d.rounds k f=([],f)
 | 0=>rfl
 | k+1=>by unfold Day.rounds;rw[if_pos h]
end Go.Mini
namespace Go.Mini
abbrev ClR:=Int × Int × Int × Int
def ff (n:Int) (c:ClR):Bool:=decide (0≤c.1)&&decide (c.1<n)&&decide (-1≤c.2.1)&&decide (c.2.1<n)&&decide (0≤c.2.2.1)&&decide (c.2.2.1<10)&&decide (0≤c.2.2.2)&&decide (c.2.2.2≤1000000000000000)
def dq (cash:List Int) (cs:List ClR):Bool:=decide (cash.length≤60)&&decide (cs.length≤2000)&&cash.all (fun x=>decide (0≤x)&&decide (x≤1000000000000000))&&cs.all (ff cash.length)
def bm (c:ClR):Cl:=⟨c.1.toNat,c.2.1,c.2.2.1.toNat,(c.2.2.2:Rat)⟩
def ab (cash:List Int) (cs:List ClR):Day:=⟨cash.length,fun i=>((cash.getD i 0:Int):Rat),cs.map bm⟩
theorem rightD_iff {cash:List Int} {cs:List ClR}:dq cash cs=true↔cash.length≤60∧cs.length≤2000∧(∀ x∈cash,0≤x∧x≤1000000000000000)∧∀ c∈cs,0≤c.1∧c.1<cash.length ∧ -1≤c.2.1∧c.2.1<cash.length∧0≤c.2.2.1∧c.2.2.1<10∧0≤c.2.2.2∧c.2.2.2≤1000000000000000:=by
 unfold dq ff;simp only[ac1,decide_eq_true_eq,List.all_eq_true,and_assoc]
theorem ma {cash:List Int} {cs:List ClR} (h:dq cash cs=true):(ab cash cs).OK:=by
 obtain⟨-,-,h3,h4⟩:=rightD_iff.1 h
 have hc:∀ x∈(ab cash cs).cl,∃ c∈cs,x=bm c:=fun x hx=>by
  obtain⟨c,hc,rfl⟩:=List.mem_map.1 hx;exact⟨c,hc,rfl⟩
 refine⟨fun x hx=>?_,fun x hx=>?_,fun x hx=>?_,fun x hx=>?_,fun i hi=>?_⟩
 ·obtain⟨c,hc,rfl⟩:=hc x hx
  have:=h4 c hc
  show c.1.toNat<cash.length;omega
 ·obtain⟨c,hc,rfl⟩:=hc x hx
  have:=h4 c hc
  show c.2.1<(cash.length:Int);omega
 ·obtain⟨c,hc,rfl⟩:=hc x hx
  have:=h4 c hc
  show c.2.2.1.toNat<10;omega
 ·obtain⟨c,hc,rfl⟩:=hc x hx
  have:=(h4 c hc).2.2.2.2.2.2.1
  show (0:Rat)≤(c.2.2.2:Rat)
  exact_mod_cast this
 ·show (0:Rat)≤((cash.getD i 0:Int):Rat)
  have hi':i<cash.length:=hi
  have:0≤cash.getD i 0:=by
   rw[ac2,ac3 hi'];exact (h3 _ (List.getElem_mem hi')).1
  exact_mod_cast this
def bt:List ClR→(ClR→Int)→Int
 | [],_=>0
 | c::l,F=>F c+bt l F
def aP (cs:List ClR) (who r:Int):Int:=bt cs fun c=>if c.1=who∧c.2.2.1<r then c.2.2.2 else 0
theorem oW (cs:List ClR) (F:ClR→Int) (G:Cl→Rat) (h:∀ c∈cs,((F c:Int):Rat)=G (bm c)):((bt cs F:Int):Rat)=sumC (cs.map bm) G:=by
 induction cs with
 | nil=>rfl
 | cons c l ih=>rw[bt,ac4,sumC,ac5,h c acO,ih fun x hx=>h x (acP _ hx)]
theorem jp {cs:List ClR} {F G:ClR→Int} (h:∀ c∈cs,F c=G c):bt cs F=bt cs G:=by
 induction cs with
 | nil=>rfl
 | cons c l ih=>rw[bt,bt,h c acO,ih fun x hx=>h x (acP _ hx)]
theorem tj {cs:List ClR} {F:ClR→Int} {B:Int} (hB:0≤B) (h:∀ c∈cs,0≤F c∧F c≤B):0≤bt cs F∧bt cs F≤cs.length*B:=by
 induction cs with
 | nil=>simp [bt]
 | cons c l ih =>
  have h1:=h c acO;have h2:=ih fun x hx=>h x (acP _ hx)
  simp only[bt,ac6]
  have:((l.length+1:Nat):Int)*B=l.length*B+B:=by
   rw[Int.natCast_add,Int.add_mul];simp
  omega
theorem jW (a b:List ClR) (F:ClR→Int):bt (a++b) F=bt a F+bt b F:=by
 induction a with
 | nil=>simp [bt]
 | cons c l ih=>simp only[ac7,bt,ih];omega
theorem dQ {cash:List Int} {cs:List ClR} (h:dq cash cs=true) (i r:Nat):((aP cs i r:Int):Rat)=(ab cash cs).U i r:=by
 refine oW cs _ (fun c=>if c.fr=i∧c.rk<r then c.am else 0) fun c hc=>?_
 have:=(rightD_iff.1 h).2.2.2 c hc
 show ((if c.1=(i:Int)∧c.2.2.1<(r:Int) then c.2.2.2 else 0:Int):Rat)=if c.1.toNat=i∧c.2.2.1.toNat<r then (c.2.2.2:Rat) else 0
 by_cases h1:c.1=(i:Int)∧c.2.2.1<(r:Int)
 ·rw[if_pos h1,if_pos (by omega)]
 ·rw[if_neg h1,if_neg (by omega)];rfl
theorem xJ {cash:List Int} {cs:List ClR} (h:dq cash cs=true) (i r:Nat):((aP cs i (r+1:Nat)-aP cs i r:Int):Rat)=(ab cash cs).S i r:=by
 have h1:=dQ h i r;have h2:=dQ h i (r+1);rw[ac8,h1,h2,Day.U_succ];grind
def dk (cash:List Int) (cs:List ClR) (f:Nat→Nat) (i:Nat):Int:=cash.getD i 0+bt cs fun c=>if c.2.1=(i:Int)∧c.2.2.1<(f c.1.toNat:Int) then c.2.2.2 else 0
def ext (N:Nat) (y:Nat→Rat) (z:Rat):Nat→Rat:=fun k=>if k<N then y k else z
theorem qm (N:Nat) (a y:Nat→Rat) (z:Rat):lf N a (ext N y z)=sumQ N (fun k=>a k*y k)+a N*z:=by
 unfold lf ext;rw[sumQ]
 congr 1
 ·exact bI fun k hk=>by rw[if_pos hk]
 ·rw[if_neg (by omega)]
theorem yC {N:Nat} {Q:Mat} {pv:Nat→Nat} (h:Red N Q N N pv) (hpv:∀ j,j<N→pv j=j) {i:Nat} (hi:i<N) (y:Nat→Rat) (z:Rat):lf N (Q i) (ext N y z)=y i+Q i N*z:=by
 rw[qm]
 congr 1
 have:∀ k,k<N→Q i k=if i=k then 1 else 0:=fun k hk=>by
  have:=h.unit k hk i hi
  rwa [hpv k hk] at this
 rw[im hi fun k hk hki=>by rw[this k hk,if_neg (Ne.symm hki),acV],this i hi,if_pos rfl,ac9]
theorem qG {N:Nat} {Q:Mat} {pv:Nat→Nat} (h:Red N Q N N pv) (hpv:∀ j,j<N→pv j=j) (y:Nat→Rat):Ann N Q (ext N y (-1))↔∀ i,i<N→y i=Q i N:=by
 unfold Ann
 constructor
 ·intro hA i hi
  have:=hA i hi;rw[yC h hpv hi] at this;grind
 ·intro hA i hi
  rw[yC h hpv hi,hA i hi];grind
theorem z9 {N:Nat} {Q:Mat} {pv:Nat→Nat} (h:Red N Q N N pv) (hpv:∀ j,j<N→pv j=j) (y:Nat→Rat) (hA:Ann N Q (ext N y 0)):∀ i,i<N→y i=0:=by
 intro i hi;have:=hA i hi;rw[yC h hpv hi] at this;grind
def qr (Q:Mat) (c:Nat):Nat→Rat:=fun k=>if k<c then 0-Q k c else if k=c then 1 else 0
theorem vI {N c:Nat} {Q:Mat} {pv:Nat→Nat} (h:Red N Q c c pv) (hpv:∀ j,j<c→pv j=j) (hc:c<N) (hz:∀ i,c≤i→i<N→Q i c=0):Ann N Q (ext N (qr Q c) 0):=by
 intro i hi;rw[qm]
 have main:∀ n,c<n→n≤N→sumQ n (fun k=>Q i k*qr Q c k)=sumQ (c+1) (fun k=>Q i k*qr Q c k):=by
  intro n
  induction n with
  | zero=>intro h;omega
  | succ n ih =>
   intro h1 h2
   by_cases hcn:c=n
   ·rw[hcn]
   ·rw[sumQ,ih (by omega) (by omega)]
    unfold qr;rw[if_neg (show ¬ n<c by omega),if_neg (show ¬ n=c by omega)];grind
 rw[main N hc (acX _),sumQ];have hk:qr Q c c=1:=by unfold qr;rw[if_neg (by omega),if_pos rfl]
 rw[hk]
 have hu:∀ k,k<c→Q i k=if i=k then 1 else 0:=fun k hk=>by
  have:=h.unit k hk i hi
  rwa [hpv k hk] at this
 rcases ada i c with hlt | hge
 ·rw[im hlt fun k hk hki=>by rw[hu k hk,if_neg (Ne.symm hki),acV],hu i hlt,if_pos rfl]
  unfold qr;rw[if_pos hlt];grind
 ·rw[gR fun k hk=>by rw[hu k hk,if_neg (by omega),acV],hz i hge hi]
  grind
abbrev Col:=Nat→Rat
def lap (n:Nat) (f:List Col→Rat):List Col→List Col→Rat
 | _,[]=>0
 | pre,c::cs=>c n*f (pre++cs)-lap n f (pre++[c]) cs
def eJ:Nat→List Col→Rat
 | 0,[]=>1
 | 0,_::_=>0
 | n+1,cs=>lap n (eJ n) [] cs
def zW (x y:Col) (a:Rat):Col:=fun i=>x i+a*y i
def Pr (f:List Col→Rat):Prop:=∀ A B x y a,f (A++zW x y a::B)=f (A++x::B)+a*f (A++y::B)
def OG (f:List Col→Rat):Prop:=∀ A B z,f (A++z::z::B)=0
theorem A7 {n:Nat} {f:List Col→Rat} (h:Pr f) (x y:Col) (a:Rat) (A:List Col):∀ cs A',lap n f (A++zW x y a::A') cs=lap n f (A++x::A') cs+a*lap n f (A++y::A') cs:=by
 intro cs
 induction cs with
 | nil=>intro A';simp only[lap];grind
 | cons c cs ih =>
  intro A';have e:=ih (A'++[c]);simp only[lap,adb,ac7] at e ⊢;rw[h A (A'++cs) x y a,e];grind
theorem Nl {n:Nat} {f:List Col→Rat} (h:Pr f) (x y:Col) (a:Rat) (B:List Col):∀ A pre,lap n f pre (A++zW x y a::B)=lap n f pre (A++x::B)+a*lap n f pre (A++y::B):=by
 intro A
 induction A with
 | nil =>
  intro pre;have e:=A7 (n:=n) h x y a pre B [];simp only[adc,lap];rw[e];simp only[zW];grind
 | cons c A ih =>
  intro pre;have e:=ih (pre++[c]);have e2:=h (pre++A) B x y a;simp only[adb] at e2;simp only[ac7,lap];rw[e,e2];grind
theorem ns:∀ n,Pr (eJ n)
 | 0=>by
  intro A B x y a
  cases A<;>simp only[adc,ac7,eJ]<;>grind
 | n+1=>fun A B x y a=>Nl (ns n) x y a B A []
theorem A9 {n:Nat} {f:List Col→Rat} (h:OG f) (z:Col) (A:List Col):∀ cs A',lap n f (A++z::z::A') cs=0:=by
 intro cs
 induction cs with
 | nil=>intro A';rfl
 | cons c cs ih =>
  intro A';have e:=ih (A'++[c]);have e2:=h A (A'++cs) z;simp only[lap,adb,ac7] at e e2 ⊢;rw[e,e2];grind
theorem Mt {n:Nat} {f:List Col→Rat} (h:OG f) (z:Col) (B:List Col):∀ A pre,lap n f pre (A++z::z::B)=0:=by
 intro A
 induction A with
 | nil =>
  intro pre;have e:=A9 (n:=n) h z pre B [];simp only[adc,lap,adb,ac7] at e ⊢;rw[e];grind
 | cons c A ih =>
  intro pre;have e:=ih (pre++[c]);have e2:=h (pre++A) B z;simp only[adb] at e2;simp only[ac7,lap];rw[e,e2];grind
theorem qi:∀ n,OG (eJ n)
 | 0=>by
  intro A B z
  cases A<;>rfl
 | n+1=>fun A B z=>Mt (qi n) z B A []
theorem Jc (n:Nat) (A B:List Col) (x y:Col):eJ n (A++x::y::B) = -eJ n (A++y::x::B):=by
 have h0:=qi n A B (zW x y 1);have h1:=ns n A (zW x y 1::B) x y 1;rw[h0] at h1;have h2:=ns n (A++[x]) B x y 1;have h3:=ns n (A++[y]) B x y 1;simp only[adb,ac7,adc] at h2 h3;rw[h2,h3,qi n A B x,qi n A B y] at h1;grind
theorem FG (n:Nat) (C:List Col) (z:Col):∀ B A,eJ n (A++z::(B++z::C))=0:=by
 intro B
 induction B with
 | nil=>intro A;exact qi n A C z
 | cons b B ih =>
  intro A;have:=ih (A++[b]);simp only[adb,ac7,adc] at this ⊢;rw[Jc,this];grind
theorem tM {n:Nat} {A B:List Col} {z:Col} (h:z∈A++B):eJ n (A++z::B)=0:=by
 rcases List.mem_append.1 h with h | h
 ·obtain⟨A1,A2,rfl⟩:=ade h
  have:=FG n B z A2 A1
  simpa only [adb,ac7] using this
 ·obtain⟨B1,B2,rfl⟩:=ade h
  exact FG n B2 z B1 A
theorem H8 {n:Nat} {f:List Col→Rat} {z:Col} (hz:z n=0) (h:∀ A B,f (A++z::B)=0):(∀ cs A A',lap n f (A++z::A') cs=0)∧∀ A B pre,lap n f pre (A++z::B)=0:=by
 have h1:∀ cs A A',lap n f (A++z::A') cs=0:=by
  intro cs
  induction cs with
  | nil=>intro A A';rfl
  | cons c cs ih =>
   intro A A';have e:=ih A (A'++[c]);have e2:=h A (A'++cs);simp only[lap,adb,ac7] at e e2 ⊢;rw[e,e2];grind
 refine⟨h1,fun A=>?_⟩
 induction A with
 | nil =>
  intro B pre;have e:=h1 B pre [];simp only[adc,lap];rw[e,hz];grind
 | cons c A ih =>
  intro B pre;have e:=ih B (pre++[c]);have e2:=h (pre++A) B;simp only[adb] at e2;simp only[ac7,lap];rw[e,e2];grind
theorem ub:∀ n (z:Col),(∀ i,i<n→z i=0)→∀ A B,eJ n (A++z::B)=0
 | 0,z,_=>fun A B=>by cases A<;>rfl
 | n+1,z,h=>fun A B=>(H8 (h n (by omega)) (ub n z fun i hi=>h i (by omega))).2 A B []
theorem Bv {n:Nat} {e:Col} (h:∀ i,i<n→e i=0) (cs:List Col):eJ (n+1) (e::cs)=e n*eJ n cs:=by
 show e n*eJ n ([]++cs)-lap n (eJ n) ([]++[e]) cs=_
 have:∀ cs pre,lap n (eJ n) (e::pre) cs=0:=by
  intro cs
  induction cs with
  | nil=>intro pre;rfl
  | cons c cs ih =>
   intro pre;have e1:=ih (pre++[c]);have e2:=ub n e h [] (pre++cs);simp only[lap,ac7,adc] at e1 e2 ⊢;rw[e1,e2];grind
 simp only[adc];rw[this cs []];grind
theorem Mo {n:Nat} {f:List Col→Rat} {T:Col→Col} (hT:∀ c,T c n=c n) (h:∀ l,f (l.map T)=f l):∀ cs pre,lap n f (pre.map T) (cs.map T)=lap n f pre cs:=by
 intro cs
 induction cs with
 | nil=>intro pre;rfl
 | cons c cs ih =>
  intro pre;have e:=ih (pre++[c]);have e2:=h (pre++cs);simp only[adf,ac4,adg] at e e2;simp only[ac4,lap];rw[e,e2,hT]
theorem zy:∀ n (T:Col→Col),(∀ c i,i<n→T c i=c i)→∀ l,eJ n (l.map T)=eJ n l
 | 0,T,_=>fun l=>by cases l<;>rfl
 | n+1,T,h=>fun l=>Mo (fun c=>h c n (by omega)) (zy n T fun c i hi=>h c i (by omega)) l []
theorem wL {n:Nat} {α:Type} (l:List α) (f g:α→Col) (h:∀ a∈l,∀ i,i<n→f a i=g a i):eJ n (l.map f)=eJ n (l.map g):=by
 rw[←zy n (fun c i=>if i<n then c i else 0) (fun c i hi=>if_pos hi),←zy n (fun c i=>if i<n then c i else 0) (fun c i hi=>if_pos hi) (l.map g)];rw[adh,adh]
 congr 1
 apply List.map_congr_left;intro a ha
 funext i
 simp only[Function.comp]
 split
 ·exact h a ha i (by assumption)
 ·rfl
theorem ou (n:Nat) (A B:List Col) (x:Nat→Rat) (C:Nat→Col):∀ m,eJ n (A++(fun i=>sumQ m fun l=>x l*C l i)::B)=sumQ m fun l=>x l*eJ n (A++C l::B)
 | 0=>ub n _ (fun i _=>rfl) A B
 | m+1=>by
  have e:=ns n A B (fun i=>sumQ m fun l=>x l*C l i) (C m) (x m);rw[ou n A B x C m] at e;exact e
def IZ (B:Nat) (x:Rat):Prop:=∃ z:Int,x=(z:Rat)∧z.natAbs≤B
theorem IZ.mono {A B:Nat} {x:Rat} (h:IZ A x) (hl:A≤B):IZ B x:=by obtain⟨z,h1,h2⟩:=h;exact⟨z,h1,by omega⟩
theorem IZ.mul {A B:Nat} {x y:Rat} (hx:IZ A x) (hy:IZ B y):IZ (A*B) (x*y):=by
 obtain⟨z,rfl,h2⟩:=hx;obtain⟨w,rfl,g2⟩:=hy;exact⟨z*w,by rw[adi],by rw[adj];exact adk h2 g2⟩
theorem IZ.sub {A B:Nat} {x y:Rat} (hx:IZ A x) (hy:IZ B y):IZ (A+B) (x-y):=by
 obtain⟨z,rfl,h2⟩:=hx;obtain⟨w,rfl,g2⟩:=hy;exact⟨z-w,by rw[ac8],by omega⟩
theorem IZ.add {A B:Nat} {x y:Rat} (hx:IZ A x) (hy:IZ B y):IZ (A+B) (x+y):=by
 obtain⟨z,rfl,h2⟩:=hx;obtain⟨w,rfl,g2⟩:=hy;exact⟨z+w,by rw[ac5],by omega⟩
theorem IZ.zero {B:Nat}:IZ B 0:=⟨0,by rfl,by simp⟩
theorem IZ.int (z:Int):IZ z.natAbs (z:Rat):=⟨z,rfl,acX _⟩
theorem IZ.sum {B:Nat} {f:Nat→Rat}:∀ n,(∀ k,k<n→IZ B (f k))→IZ (n*B) (sumQ n f)
 | 0,_=>IZ.zero
 | n+1,h=>by
  have:=(IZ.sum n fun k hk=>h k (by omega)).add (h n (by omega));exact this.mono (by rw[adl];exact acX _)
def jL:List (Col × Nat)→Nat
 | []=>1
 | p::l=>p.2*jL l
theorem yS (a b:List (Col × Nat)):jL (a++b)=jL a*jL b:=by
 induction a with
 | nil=>simp [jL]
 | cons p l ih=>simp only[ac7,jL,ih,adm]
theorem KP {n M:Nat} {f:List Col→Rat} (h:∀ l:List (Col × Nat),(∀ p∈l,∀ i,i<n+1→IZ p.2 (p.1 i))→l.length≤M→IZ (M^n*jL l) (f (l.map (·.1)))) :
  ∀ cs pre:List (Col × Nat),(∀ p∈pre++cs,∀ i,i<n+1→IZ p.2 (p.1 i))→pre.length+cs.length≤M+1→IZ (cs.length*(M^n*jL (pre++cs))) (lap n f (pre.map (·.1)) (cs.map (·.1)))
 | [],pre,_,_=>IZ.zero
 | c::cs,pre,hp,hl=>by
  have e:=KP h cs (pre++[c]) (by simpa using hp) (by simp at hl ⊢;omega);have e2:=h (pre++cs) (fun p hm=>hp p (by simp only[adn,ado] at hm ⊢;rcases hm with hm | hm<;>simp [hm])) (by simp at hl ⊢;omega);have e3:=(hp c (by simp) n (by omega)).mul e2;simp only[adf,ac4,adg] at e e2 e3;simp only[ac4,lap];refine (e3.sub e).mono ?_;simp only[yS,jL,ac6,adb,ac7,adc,adl]
  have:c.2*(M^n*(jL pre*jL cs))=M^n*(jL pre*(c.2*jL cs)):=by
   rw[adp,adp c.2]
  rw[this];omega
theorem I7 (M:Nat):∀ n (l:List (Col × Nat)),(∀ p∈l,∀ i,i<n→IZ p.2 (p.1 i))→l.length≤M→IZ (M^n*jL l) (eJ n (l.map (·.1)))
 | 0,[],_,_=>⟨1,by rfl,by simp [jL]⟩
 | 0,p::l,_,_=>IZ.zero
 | n+1,l,h,hl=>by
  have:=KP (M:=M) (f:=eJ n) (fun l' h' hl'=>I7 M n l' (fun p hp i hi=>h' p hp i (by omega)) hl') l [] (by simpa using h) (by simp;omega);refine IZ.mono this ?_;rw[adc,adq,adr (M^n) M,adm];exact ads _ hl
open Go
set_option maxRecDepth 10000
set_option maxHeartbeats 1000000
def EncV (N:Nat) (l:List aG) (q:Nat→Rat):Prop:=l=((acZ (N+1)).map q).map ah∧∀ k,k≤N→cr (q k)
def EncM (N:Nat) (rows:List MR) (Q:Mat):Prop:=rows.length=N∧∀ (i:Nat) x,rows[i]?=some x→EncV N x.2.2 (Q i)
theorem EncV.get {N:Nat} {l:List aG} {q:Nat→Rat} (h:EncV N l q) {k:Nat} (hk:k≤N):l[k]?=some (ah (q k)):=by
 rw[h.1,adt,adt,adu (by omega)]
 rfl
theorem EncV.len {N:Nat} {l:List aG} {q:Nat→Rat} (h:EncV N l q):l.length=N+1:=by rw[h.1];simp
theorem EncV.of_get {N:Nat} {l:List aG} {q:Nat→Rat} (hl:l.length=N+1) (h:∀ k,k≤N→l[k]?=some (ah (q k))∧cr (q k)):EncV N l q:=by
 refine⟨?_,fun k hk=>(h k hk).2⟩
 apply adv;intro k;rcases ada k (N+1) with hk | hk
 ·rw[(h k (by omega)).1,adt,adt,adu hk];rfl
 ·rw[adw (by omega),adw (by simp;omega)]
theorem EncV.congr {N:Nat} {l:List aG} {q q':Nat→Rat} (h:EncV N l q) (hq:∀ k,k≤N→q k=q' k):EncV N l q' :=
 EncV.of_get h.len fun k hk=>by rw[←hq k hk];exact⟨h.get hk,h.2 k hk⟩
theorem EncV.cell {N:Nat} {x:MR} {q:Nat→Rat} (h:EncV N x.2.2 q) {k:Nat} (hk:k≤N):cP x k=ah (q k):=uB (h.get hk)
theorem oV (q:Rat):ie (ah q)=decide (q=0):=by
 unfold ie ah aS;rw[Bool.eq_iff_iff,beq_iff_eq,decide_eq_true_eq,Int.sign_eq_zero_iff_zero,Rat.num_eq_zero]
def iy (fac a b:Rat):Bool:=qM fac b&&ia a (-(fac*b))
theorem E8 {fac a b:Rat} (hf:cr fac) (ha:cr a) (hb:cr b) (h:iy fac a b=true) :
  mo (ah fac) (ah b)=(ah (fac*b),0)∧nH (ah a) (ah (fac*b))=(ah (a-fac*b),0)∧cr (a-fac*b):=by
 unfold iy at h;rw[ac1] at h;refine⟨?_,?_,EA h.2⟩
 ·rw[vf hf hb,h.1];rfl
 ·rw[rg ha (Fc h.1),h.2];rfl
theorem It {fac a b:Rat} (hf:cr fac) (ha:cr a) (hb:cr b) (h:iy fac a b=false) :
  ((mo (ah fac) (ah b)).2 != 0||(nH (ah a) (mo (ah fac) (ah b)).1).2 != 0)=true:=by
 unfold iy at h;rw[vf hf hb];rcases h1:qM fac b
 ·rfl
 ·rw[h1,Bool.true_and] at h
  show ((nH (ah a) (ah (fac*b))).2 != 0)=true;rw[rg ha (Fc h1),h]
  rfl
theorem DS {fac:Rat} (hf:cr fac):∀ (ql pl:List Rat),ql.length=pl.length→(∀ x∈ql,cr x)→(∀ x∈pl,cr x) →
  ((∀ q∈ql.zip pl,iy fac q.1 q.2=true)→c8 (ah fac) (ql.map ah) (pl.map ah) false=((adx (fun a b=>a-fac*b) ql pl).map ah,false)∧∀ x∈adx (fun a b=>a-fac*b) ql pl,cr x) ∧
  ((c8 (ah fac) (ql.map ah) (pl.map ah) false).2=false→∀ q∈ql.zip pl,iy fac q.1 q.2=true):=by
 intro ql
 induction ql with
 | nil=>intro pl hl _ _;cases pl with
  | nil=>exact⟨fun _=>⟨rfl,by simp⟩,fun _=>by simp⟩
  | cons=>cases hl
 | cons a ql ih =>
  intro pl hl h1 h2
  cases pl with
  | nil=>cases hl
  | cons b pl =>
   have ha:=h1 a acO;have hb:=h2 b acO;obtain⟨i1,i2⟩:=ih pl (by simpa using hl) (fun x hx=>h1 x (acP _ hx)) (fun x hx=>h2 x (acP _ hx))
   constructor
   ·intro hall
    obtain⟨e1,e2,e3⟩:=E8 hf ha hb (hall (a,b) (by simp));obtain⟨i3,i4⟩:=i1 fun q hq=>hall q (by simp only[ady,ado];exact .inr hq)
    refine⟨?_,fun x hx=>?_⟩
    ·simp only[ac4,c8,e1,e2,adz,bne_self_eq_false,adA,i3]
    ·rw[adz,ado] at hx
     rcases hx with rfl | hx
     ·exact e3
     ·exact i4 x hx
   ·intro hb2
    simp only[ac4,c8] at hb2;rcases hs:iy fac a b
    ·rw[It hf ha hb hs,pN] at hb2
     cases hb2
    ·obtain⟨e1,e2,e3⟩:=E8 hf ha hb hs
     simp only[e1,e2,bne_self_eq_false,adA] at hb2;intro q hq;rw[ady,ado] at hq;rcases hq with rfl | hq
     ·exact hs
     ·exact i2 hb2 q hq
theorem vZ (n:Nat) (q p:Nat→Rat):((acZ n).map q).zip ((acZ n).map p)=(acZ n).map fun k=>(q k,p k):=by
 rw[List.zip_map',]
theorem vL (n:Nat) (f:Rat→Rat→Rat) (q p:Nat→Rat):adx f ((acZ n).map q) ((acZ n).map p)=(acZ n).map fun k=>f (q k) (p k):=by
 rw[List.zipWith_map,List.zipWith_self]
theorem J0 {N:Nat} {fac:Rat} {l l2:List aG} {q p:Nat→Rat} (hf:cr fac) (h1:EncV N l q) (h2:EncV N l2 p) :
  ((∀ k,k≤N→iy fac (q k) (p k)=true)→(c8 (ah fac) l l2 false).2=false)∧((c8 (ah fac) l l2 false).2=false→EncV N (c8 (ah fac) l l2 false).1 (fun k=>q k-fac*p k)):=by
 obtain⟨e1,e2⟩:=DS hf ((acZ (N+1)).map q) ((acZ (N+1)).map p) (by simp) (by
  intro x hx;obtain⟨k,hk,rfl⟩:=List.mem_map.1 hx;exact h1.2 k (by have:=List.mem_range.1 hk;omega)) (by
  intro x hx;obtain⟨k,hk,rfl⟩:=List.mem_map.1 hx;exact h2.2 k (by have:=List.mem_range.1 hk;omega))
 rw[←h1.1,←h2.1] at e1 e2
 have hz:(∀ k,k≤N→iy fac (q k) (p k)=true)↔∀ x∈((acZ (N+1)).map q).zip ((acZ (N+1)).map p),iy fac x.1 x.2=true:=by
  rw[vZ];simp only[adB,ac0]
  constructor
  ·rintro h x ⟨k,hk,rfl⟩;exact h k (by omega)
  ·intro h k hk;exact h (q k,p k) ⟨k,by omega,rfl⟩
 refine⟨fun h=>by rw[(e1 (hz.1 h)).1],fun h=>?_⟩
 obtain⟨e3,e4⟩:=e1 (e2 h);rw[e3,vL] at *;exact⟨rfl,fun k hk=>e4 _ (List.mem_map.2 ⟨k,List.mem_range.2 (by omega),rfl⟩)⟩
theorem kp (prow:List aG) (r c:Nat):∀ (i:Nat) (l:List MR),(bR prow r c i l true).2=true
 | _,[]=>rfl
 | i,x::xs=>by
  unfold bR
  split
  ·exact kp prow r c (i+1) xs
  ·rw[pN];exact kp prow r c (i+1) xs
theorem rj {N r c:Nat} {prow:List aG} {p:Nat→Rat} (hp:EncV N prow p) (hc:c≤N):∀ (i:Nat) (l:List MR) (D:Mat),(∀ (j:Nat) x,l[j]?=some x→EncV N x.2.2 (D (i+j))) →
  ((∀ j,j<l.length→i+j≠r→D (i+j) c≠0→∀ k,k≤N→iy (D (i+j) c) (D (i+j) k) (p k)=true)→(bR prow r c i l false).2=false) ∧
  ((bR prow r c i l false).2=false→∀ (j:Nat) x,(bR prow r c i l false).1[j]?=some x→EncV N x.2.2 (fun k=>if i+j=r then D (i+j) k else D (i+j) k-D (i+j) c*p k))
 | i,[],D,h=>⟨fun _=>rfl,fun _ j x hx=>by simp [bR] at hx⟩
 | i,x::xs,D,h=>by
  have h0:=h 0 x rfl;rw[adC] at h0
  obtain⟨ih1,ih2⟩:=rj hp hc (i+1) xs D fun j y hy=>by
   have:=h (j+1) y hy
   rwa [show i+(j+1)=i+1+j by omega] at this
  have hcell:=h0.cell hc
  have ihs:(∀ j,j<(x::xs).length→i+j≠r→D (i+j) c≠0→∀ k,k≤N→iy (D (i+j) c) (D (i+j) k) (p k)=true)→∀ j,j<xs.length→i+1+j≠r→D (i+1+j) c≠0→∀ k,k≤N→iy (D (i+1+j) c) (D (i+1+j) k) (p k)=true:=by
   intro hh j hj;have:=hh (j+1) (by simpa using hj)
   rwa [show i+(j+1)=i+1+j by omega] at this
  unfold bR;rw[hcell,oV]
  by_cases hz:(i==r||decide (D i c=0))=true
  ·rw[if_pos hz]
   refine⟨fun hh=>ih1 (ihs hh),fun hb j y hy=>?_⟩
   cases j with
   | zero =>
    simp only[adD,Option.some.injEq] at hy;subst hy;rw[adC];refine h0.congr fun k hk=>?_
    simp only[adE,beq_iff_eq,decide_eq_true_eq] at hz
    split
    ·rfl
    ·rcases hz with hz | hz
     ·contradiction
     ·rw[hz];grind
   | succ j =>
    have:=ih2 hb j y (by simpa using hy)
    rwa [show i+(j+1)=i+1+j by omega]
  ·rw[if_neg hz]
   simp only[adE,beq_iff_eq,decide_eq_true_eq,not_or] at hz;obtain⟨g1,g2⟩:=J0 (h0.2 c hc) h0 hp
   constructor
   ·intro hh
    have h3:=g1 (hh 0 (by simp) (by simpa using hz.1) (by simpa using hz.2));dsimp only;rw[h3];exact ih1 (ihs hh)
   ·intro hb j y hy
    dsimp only at hb hy;rcases hgb:(c8 (ah (D i c)) x.2.2 prow false).2
    ·rw[hgb] at hb hy
     cases j with
     | zero =>
      simp only[adD,Option.some.injEq] at hy;subst hy;rw[adC];exact (g2 hgb).congr fun k hk=>by rw[if_neg hz.1]
     | succ j =>
      have:=ih2 hb j y (by simpa using hy)
      rwa [show i+(j+1)=i+1+j by omega]
    ·rw[hgb,kp] at hb
     cases hb
theorem CE {N:Nat} {l:List aG} {q:Nat→Rat} {b:Rat} (h:EncV N l q) (hb:cr b) (h0:b≠0) :
  ((cE (ah b) l).2=false↔∀ k,k≤N→nZ (q k) b=true)∧((cE (ah b) l).2=false→EncV N (cE (ah b) l).1 (fun k=>q k / b)):=by
 have e1:(cE (ah b) l).2=false↔∀ k,k≤N→nZ (q k) b=true:=by
  unfold cE;rw[h.1];simp only[adF,adB,ac0]
  constructor
  ·intro hh k hk
   have:=hh (ah (q k)) ⟨q k,⟨k,by omega,rfl⟩,rfl⟩
   rw[qC (h.2 k hk) hb h0] at this;rcases hd:nZ (q k) b
   ·rw[hd] at this;exact absurd rfl this
   ·rfl
  ·rintro hh _ ⟨_,⟨k,hk,rfl⟩,rfl⟩
   rw[qC (h.2 k (by omega)) hb h0,hh k (by omega)];simp [qD]
 refine⟨e1,fun hh=>?_⟩
 have hok:=e1.1 hh;refine EncV.of_get (by unfold cE;rw[adG,h.len]) fun k hk=>⟨?_,Nk (hok k hk)⟩
 unfold cE;rw[adt,h.get hk,adH,qC (h.2 k hk) hb h0,hok k hk]
 rfl
theorem EncM.row {N:Nat} {rows:List MR} {Q:Mat} (h:EncM N rows Q) {i:Nat} (hi:i<N):∃ x,rows[i]?=some x∧fo rows i=x∧EncV N x.2.2 (Q i):=by
 obtain⟨x,hx⟩:∃ x,rows[i]?=some x:=⟨_,ac3 (by have:=h.1;omega)⟩;exact⟨x,hx,li hx,h.2 i x hx⟩
theorem EncM.swap {N:Nat} {rows:List MR} {Q:Mat} (h:EncM N rows Q) {r s:Nat} (hr:r<N) (hs:s<N):EncM N (swapped rows r s) (dp Q r s):=by
 obtain⟨x,hx,ex,vx⟩:=h.row hr;obtain⟨y,hy,ey,vy⟩:=h.row hs;unfold swapped;rw[ex,ey];refine⟨by rw[adI,adI];exact h.1,fun i z hz=>?_⟩
 rw[adJ,adJ,adI] at hz;unfold dp
 by_cases h1:s=i
 ·rw[if_pos h1,if_pos (by have:=h.1;omega)] at hz
  cases hz;rw[if_pos h1.symm];exact vx
 ·rw[if_neg h1] at hz
  rw[if_neg (Ne.symm h1)]
  by_cases h2:r=i
  ·rw[if_pos h2,if_pos (by have:=h.1;omega)] at hz
   cases hz;rw[if_pos h2.symm];exact vy
  ·rw[if_neg h2] at hz
   rw[if_neg (Ne.symm h2)];exact h.2 i z hz
def NP (N:Nat) (S:Mat) (r c:Nat):Prop:=(∀ k,k≤N→nZ (S r k) (S r c)=true)∧∀ i,i<N→i≠r→S i c≠0→∀ k,k≤N→iy (S i c) (S i k) (S r k / S r c)=true
theorem Aq {N:Nat} {rows:List MR} {Q:Mat} (h:EncM N rows Q) {r c:Nat} (hr:r<N) (hc:c<N) :
  ((gW rows r c).1=true∧(gW rows r c).2.1=rows∧(gW rows r c).2.2=false∧∀ i,r≤i→i<N→Q i c=0) ∨
  ((gW rows r c).1=false∧∃ s,r≤s∧s<N∧Q s c≠0∧((gW rows r c).2.2=false→EncM N (gW rows r c).2.1 (nw Q r c s))∧(NP N (dp Q r s) r c→(gW rows r c).2.2=false)):=by
 have hl:=h.1;have hfl:=wz rows r c (by omega)
 have hfz:∀ i x,r≤i→i<cB rows r c→rows[i]?=some x→ie (cP x c)=true:=by
  intro i x hi1 hi2 hx;unfold cB at hi2;have hlt:i-r<(rows.drop r).findIdx fun x => !ie (cP x c):=by omega
  have:=List.not_of_lt_findIdx hlt
  have hg:(rows.drop r)[i-r]'(Nat.lt_of_lt_of_le hlt List.findIdx_le_length)=x:=by
   rw[adK];have:=(List.getElem?_eq_some_iff.1 hx)
   obtain⟨h1,h2⟩:=this;simp only[show r+(i-r)=i by omega]
   exact h2
  rw[hg] at this
  simpa using this
 unfold gW
 by_cases hf:cB rows r c=rows.length
 ·left
  rw[if_pos hf];refine⟨rfl,rfl,rfl,fun i hi1 hi2=>?_⟩
  obtain⟨x,hx,-,vx⟩:=h.row hi2;have:=hfz i x hi1 (by omega) hx;rw[vx.cell (by omega),oV] at this
  simpa using this
 ·right
  rw[if_neg hf];refine⟨rfl,cB rows r c,hfl.1,by omega,?_,?_⟩
  ·obtain⟨x,hx,-,vx⟩:=h.row (i:=cB rows r c) (by omega)
   have hlt:cB rows r c-r<(rows.drop r).length:=by rw[adL];omega
   have h2:(rows.drop r).findIdx (fun x => !ie (cP x c))<(rows.drop r).length:=by
    unfold cB at hlt;omega
   have h3:=adM (w:=h2)
   have hg:(rows.drop r)[(rows.drop r).findIdx fun x => !ie (cP x c)]=x:=by
    rw[adK];exact (List.getElem?_eq_some_iff.1 hx).2
   rw[hg,vx.cell (by omega),oV] at h3
   simpa using h3
  ·have hs:cB rows r c<N:=by omega
   have hsw:=h.swap hr hs
   have hne:dp Q r (cB rows r c) r c≠0:=by
    rw[tw];obtain⟨x,hx,-,vx⟩:=h.row hs
    have h2:(rows.drop r).findIdx (fun x => !ie (cP x c))<(rows.drop r).length:=by
     rw[adL];unfold cB at hs;omega
    have h3:=adM (w:=h2)
    have hg:(rows.drop r)[(rows.drop r).findIdx fun x => !ie (cP x c)]=x:=by
     rw[adK];exact (List.getElem?_eq_some_iff.1 hx).2
    rw[hg,vx.cell (by omega),oV] at h3
    simpa using h3
   have hpq:nw Q r c (cB rows r c)=fun i k=>if i=r then dp Q r (cB rows r c) r k / dp Q r (cB rows r c) r c else dp Q r (cB rows r c) i k-dp Q r (cB rows r c) i c*(dp Q r (cB rows r c) r k / dp Q r (cB rows r c) r c):=rfl
   rw[hpq];generalize swapped rows r (cB rows r c)=sw at *;generalize dp Q r (cB rows r c)=S at *;obtain⟨x,hx,ex,vx⟩:=hsw.row hr;rw[ex,vx.cell (by omega)];obtain⟨d1,d2⟩:=CE vx (vx.2 c (by omega)) hne
   have hdv:divided sw r c=sw.set r (x.1,x.2.1,(cE (ah (S r c)) x.2.2).1):=by
    unfold divided;rw[ex,vx.cell (by omega)]
   rw[hdv]
   have hrows:EncV N (cE (ah (S r c)) x.2.2).1 (fun k=>S r k / S r c)→∀ (j:Nat) y,(sw.set r (x.1,x.2.1,(cE (ah (S r c)) x.2.2).1))[j]?=some y→EncV N y.2.2 ((fun i=>if i=r then fun k=>S r k / S r c else S i) (0+j)):=by
    intro hd j y hy;rw[adN];rw[adJ] at hy
    by_cases hj:r=j
    ·rw[if_pos hj,if_pos (by have:=hsw.1;omega)] at hy
     cases hy;dsimp only;rw[if_pos hj.symm];exact hd
    ·rw[if_neg hj] at hy
     dsimp only;rw[if_neg (Ne.symm hj)];exact hsw.2 j y hy
   dsimp only;rcases hdb:(cE (ah (S r c)) x.2.2).2
   ·have hd:=d2 hdb
    obtain⟨r1,r2⟩:=rj (r:=r) (c:=c) hd (by omega) 0 (sw.set r (x.1,x.2.1,(cE (ah (S r c)) x.2.2).1)) (fun i=>if i=r then fun k=>S r k / S r c else S i) (hrows hd)
    constructor
    ·intro hb
     refine⟨?_,fun i z hz=>?_⟩
     ·have:=congrArg List.length (jh (cE (ah (S r c)) x.2.2).1 r c 0 (sw.set r (x.1,x.2.1,(cE (ah (S r c)) x.2.2).1)) false)
      rw[adG,adG,adI] at this;rw[this];exact hsw.1
     ·have:=r2 hb i z hz
      rw[adN] at this;refine this.congr fun k hk=>?_
      by_cases hir:i=r
      ·simp only[if_pos hir]
      ·simp only[if_neg hir]
    ·intro hok
     refine r1 fun j hj hjr hne k hk=>?_
     rw[adN] at *;simp only[if_neg hjr] at hne ⊢;rw[adI,hsw.1] at hj;exact hok.2 j hj hjr hne k hk
   ·constructor
    ·intro hb
     rw[kp] at hb
     cases hb
    ·intro hok
     rw[d1.2 hok.1] at hdb
     cases hdb
structure Elim (N:Nat) (Q Q':Mat) (rows:List MR) (p c:Nat) (pv:Nat→Nat):Prop where
 enc:EncM N rows Q'
 red:Red N Q' p c pv
 ann:∀ y,Ann N Q' y↔Ann N Q y
theorem CB (stop:Bool) (N:Nat) (Q0:Mat):∀ k c rows free Q p pv,c+k=N→Elim N Q0 Q rows p c pv→p+free.length=c→(stop=true→free=[]∧∀ j,j<p→pv j=j) →
  ∀ rows' free',gf stop k c rows free false=(rows',free',false) →
  ∃ Q' p' c' pv',Elim N Q0 Q' rows' p' c' pv'∧(stop=false→c'=N∧p'+free'.length=N) ∧
   (stop=true→(free'=[]∧c'=N∧p'=N∧∀ j,j<N→pv' j=j)∨(∃ f,free'=[f]∧f<N∧p'=f∧c'=f∧(∀ j,j<f→pv' j=j)∧∀ i,f≤i→i<N→Q' i f=0)):=by
 intro k
 induction k with
 | zero =>
  intro c rows free Q p pv hc he hp hs rows' free' hx;simp only[gf,Prod.mk.injEq,and_true] at hx;obtain⟨rfl,rfl⟩:=hx;refine⟨Q,p,c,pv,he,fun _=>⟨by omega,by omega⟩,fun h=>?_⟩
  obtain⟨h1,h2⟩:=hs h;subst h1;simp only[adO,adC] at hp;exact .inl ⟨rfl,by omega,by omega,fun j hj=>h2 j (by omega)⟩
 | succ k ih =>
  intro c rows free Q p pv hc he hp hs rows' free' hx;have hcp:c-free.length=p:=by omega
  unfold gf at hx;rw[hcp] at hx;rcases Aq he.enc (r:=p) (c:=c) (by omega) (by omega) with ⟨h1,h2,h3,h4⟩ | ⟨h1,s,hs1,hs2,hs3,h4,h5⟩
  ·rw[h1,h2,h3,if_pos rfl] at hx
   cases stop with
   | true =>
    rw[if_pos rfl] at hx;simp only[Prod.mk.injEq,and_true] at hx;obtain⟨rfl,rfl⟩:=hx;obtain⟨g1,g2⟩:=hs rfl;subst g1;simp only[adO,adC] at hp;subst hp;exact⟨Q,p,p,pv,he,by simp,fun _ => .inr ⟨p,rfl,by omega,rfl,rfl,g2,h4⟩⟩
   | false =>
    rw[if_neg (by simp)] at hx;exact ih (c+1) rows (free++[c]) Q p pv (by omega) ⟨he.enc,he.red.free h4,he.ann⟩ (by simp;omega) (by simp) rows' free' hx
  ·rw[h1,if_neg (by simp)] at hx
   rcases hb:(gW rows p c).2.2
   ·rw[hb] at hx
    have hen:=h4 hb;refine ih (c+1) _ free (nw Q p c s) (p+1) (fun j=>if j=p then c else pv j) (by omega) ⟨hen,he.red.piv (by omega) hs1 hs2 hs3,fun y=>(xO (by omega) hs2 hs3).trans (he.ann y)⟩ (by omega) (fun h=>?_) rows' free' hx
    obtain⟨g1,g2⟩:=hs h;refine⟨g1,fun j hj=>?_⟩
    subst g1;simp only[adO,adC] at hp
    show (if j=p then c else pv j)=j
    split
    ·omega
    ·exact g2 j (by omega)
   ·rw[hb,wY] at hx
    cases hx
def kh (rs:List cL):Mat:=fun i k=>if k<rs.length then pH ((rs.getD i ([],cj)).1.getD k cj) else pH (rs.getD i ([],cj)).2
theorem px {f:aG} (h:bf f=true):f=ah (pH f)∧cr (pH f):=by
 obtain⟨x,hx,rfl⟩:=(kO _).1 h;rw[kJ];exact⟨rfl,hx⟩
theorem zX {rs:List cL} {n:Int} (h:fu rs n=true):(rs.length:Int)=n∧rs.length≤40∧∀ r∈rs,r.1.length=rs.length∧bf r.2=true∧∀ f∈r.1,bf f=true:=by
 unfold fu at h;simp only[ac1,adP,decide_eq_false_iff_not,beq_iff_eq] at h;obtain⟨h1,h2,h3,h4⟩:=h;refine⟨h3,by omega,fun r hr=>?_⟩
 rw[adF] at h4;have:=h4 r hr;unfold fQ C9 at this;simp only[adP,Bool.not_eq_true,Bool.not_eq_false',ac1,beq_iff_eq,adF,Bool.not_eq_false] at this;obtain⟨q1,q2,q3⟩:=this;exact⟨by omega,q2,fun f hf=>by simpa using q3 f hf⟩
theorem BA {rs:List cL} {i:Nat} {r:cL} (h:rs[i]?=some r):rs.getD i ([],cj)=r:=by
 rw[ac2,h];rfl
theorem EI {rs:List cL} {n:Int} (h:fu rs n=true):EncM rs.length (dz rs) (kh rs):=by
 obtain⟨hn,h40,hrows⟩:=zX h;refine⟨mZ rs,fun i x hx=>?_⟩
 have hi:i<rs.length:=by
  have:=(List.getElem?_eq_some_iff.1 hx).1
  rwa [mZ] at this
 obtain⟨r,hr⟩:∃ r,rs[i]?=some r:=⟨_,ac3 hi⟩;rw[Eq hr] at hx
 cases hx;obtain⟨e1,e2,e3⟩:=hrows r (adQ hr);refine EncV.of_get (by simp [e1]) fun k hk=>?_
 unfold kh;rw[BA hr]
 by_cases hk2:k<rs.length
 ·rw[if_pos hk2]
  obtain⟨f,hf⟩:∃ f,r.1[k]?=some f:=⟨_,ac3 (by omega)⟩;obtain⟨q1,q2⟩:=px (e3 f (adQ hf));rw[List.getElem?_append_left (by omega),hf,ac2,hf];exact⟨congrArg some q1,q2⟩
 ·rw[if_neg hk2]
  obtain⟨q1,q2⟩:=px e2;rw[List.getElem?_append_right (by omega),e1,show k-rs.length=0 by omega]
  exact⟨congrArg some q1,q2⟩
theorem C4 (stop:Bool) {rs:List cL} {n:Int} (h:fu rs n=true) {rows':List MR} {free':List Nat} (hx:kg stop rs=(rows',free',false)) :
  ∃ Q' p' c' pv',Elim rs.length (kh rs) Q' rows' p' c' pv'∧(stop=false→c'=rs.length∧p'+free'.length=rs.length) ∧
   (stop=true→(free'=[]∧c'=rs.length∧p'=rs.length∧∀ j,j<rs.length→pv' j=j)∨(∃ f,free'=[f]∧f<rs.length∧p'=f∧c'=f∧(∀ j,j<f→pv' j=j)∧∀ i,f≤i→i<rs.length→Q' i f=0)) :=
 CB stop rs.length (kh rs) rs.length 0 (dz rs) [] (kh rs) 0 (fun j=>j) (by omega) ⟨EI h,oR _ _ _,fun _=>Iff.rfl⟩ rfl (fun _=>⟨rfl,fun j hj=>by omega⟩) rows' free' hx
def CD (N:Nat) (q:Nat→Rat) (b:Nat):Prop:=∃ (v:Nat→Int) (d:Int),d≠0∧d.natAbs≤2^b∧∀ k,k≤N→q k*(d:Rat)=(v k:Rat)∧(v k).natAbs≤2^b
theorem CD.mono {N a b:Nat} {q:Nat→Rat} (h:CD N q a) (hab:a≤b):CD N q b:=by
 obtain⟨v,d,h1,h2,h3⟩:=h;have hp:2^a≤2^b:=adR (by omega) hab;exact⟨v,d,h1,adS h2 hp,fun k hk=>⟨(h3 k hk).1,adS (h3 k hk).2 hp⟩⟩
theorem cross {q:Rat} {v d:Int} (hd:d≠0) (h:q*(d:Rat)=(v:Rat)):q.num*d=v*q.den:=by
 have hd':(d:Rat)≠0:=by rw[Ne,adT];exact hd
 have e:q=adU v d:=by rw[adV];grind
 have e2:adU q.num q.den=adU v d:=by rw[Rat.num_divInt_den];exact e
 exact (Rat.divInt_eq_divInt_iff (kM q) hd).1 e2
theorem fM {q:Rat} {v d:Int} (hd:d≠0) (h:q*(d:Rat)=(v:Rat)):q.num.natAbs≤v.natAbs∧q.den≤d.natAbs:=by
 have hc:=cross hd h
 have hc':q.num.natAbs*d.natAbs=v.natAbs*q.den:=by
  have:=congrArg Int.natAbs hc
  rwa [adj,adj,adW] at this
 have hdd:q.den∣d.natAbs:=(Nat.Coprime.symm q.reduced).dvd_of_dvd_mul_left ⟨v.natAbs,by rw[hc',adr]⟩
 have hdp:0<d.natAbs:=by omega
 have h2:=Nat.le_of_dvd hdp hdd;refine⟨?_,h2⟩;obtain⟨m,hm⟩:=hdd;rw[hm] at hc';have hqp:=q.den_pos
 have h3:q.num.natAbs*m=v.natAbs:=by
  have:q.den*(q.num.natAbs*m)=q.den*v.natAbs:=by rw[adr q.den v.natAbs,←hc'];rw[adp]
  exact Nat.eq_of_mul_eq_mul_left hqp this
 have hm0:0<m:=by
  rcases adX m with h0 | h0
  ·rw[h0,Nat.mul_zero] at hm;omega
  ·exact h0
 rw[←h3];exact Nat.le_mul_of_pos_right _ hm0
def szR (b:Nat) (q:Rat):Prop:=q.num.natAbs≤2^b∧q.den≤2^b
theorem CD.sz {N b:Nat} {q:Nat→Rat} (h:CD N q b) {k:Nat} (hk:k≤N):szR b (q k):=by
 obtain⟨v,d,h1,h2,h3⟩:=h;obtain⟨e1,e2⟩:=h3 k hk;obtain⟨f1,f2⟩:=fM h1 e1;exact⟨adS f1 e2,adS f2 h2⟩
theorem KS (a b c:Nat) (h:a=2^b):a^c=2^(b*c):=by rw[h,←Nat.pow_mul]
theorem Fy:∃ B:Nat,B=1200∧LIM=2^B:=⟨20*60,rfl,KS 1048576 20 60 (by decide)⟩
theorem nI {z:Int} {b:Nat} (h:z.natAbs≤2^b) (hb:b<1200):okZ z=true:=by
 obtain⟨B,hB,hL⟩:=Fy;unfold okZ;rw[hL,decide_eq_true_eq];exact Nat.lt_of_le_of_lt h (Nat.pow_lt_pow_right (by omega) (by omega))
theorem iX {x y:Int} {a b:Nat} (hx:x.natAbs≤2^a) (hy:y.natAbs≤2^b):(x*y).natAbs≤2^(a+b):=by
 rw[adj,adY];exact adk hx hy
theorem JV {x y:Int} {a:Nat} (hx:x.natAbs≤2^a) (hy:y.natAbs≤2^a):(x+y).natAbs≤2^(a+1):=by
 have:=Int.natAbs_add_le x y;rw[adq];omega
theorem szR.mono {a b:Nat} {q:Rat} (h:szR a q) (hab:a≤b):szR b q:=by
 have hp:2^a≤2^b:=adR (by omega) hab;exact⟨adS h.1 hp,adS h.2 hp⟩
theorem tY {x y:Rat} {a b:Nat} (hx:szR a x) (hy:szR b y) (h:a+b<1200):qM x y=true:=by
 unfold qM;rw[ac1];exact⟨nI (iX hx.1 hy.1) h,nI (iX (x:=(x.den:Int)) (y:=(y.den:Int)) (by simpa using hx.2) (by simpa using hy.2)) h⟩
theorem AF {x y:Rat} {a b:Nat} (hx:szR a x) (hy:szR b y) (h:a+b<1200):nZ x y=true:=by
 unfold nZ;rw[ac1];exact⟨nI (iX (y:=(y.den:Int)) hx.1 (by simpa using hy.2)) h,nI (iX (x:=(x.den:Int)) (by simpa using hx.2) hy.1) h⟩
theorem ig {x y:Rat} {a b:Nat} (hx:szR a x) (hy:szR b y) (h:a+b+1<1200):ia x y=true:=by
 unfold ia;have h1:=iX (y:=(y.den:Int)) hx.1 (by simpa using hy.2);have h2:=iX (y:=(x.den:Int)) hy.1 (by simpa using hx.2);rw[adZ b a] at h2;simp only[ac1];exact⟨nI h1 (by omega),nI h2 (by omega),nI (JV h1 h2) h,nI (iX (x:=(x.den:Int)) (y:=(y.den:Int)) (by simpa using hx.2) (by simpa using hy.2)) (by omega)⟩
theorem nu {b:Nat} {q:Rat} (h:szR b q):szR b (-q):=⟨by rw[ad0,Int.natAbs_neg];exact h.1,h.2⟩
theorem yt {p q:Int} {b:Nat} (h1:p.natAbs≤2^b) (h2:q.natAbs≤2^b) (hq:q≠0):szR b (adU p q):=by
 have hq':(q:Rat)≠0:=by rw[Ne,adT];exact hq
 have:=fM (q:=adU p q) (v:=p) hq (by rw[adV];grind);exact⟨adS this.1 h1,adS this.2 h2⟩
theorem zd {x y:Rat} {a b:Nat} (hx:szR a x) (hy:szR b y):szR (a+b) (x*y):=by
 rw[←pC];exact yt (iX hx.1 hy.1) (iX (x:=(x.den:Int)) (y:=(y.den:Int)) (by simpa using hx.2) (by simpa using hy.2)) (ad1 (kM x) (kM y))
theorem JX {x y:Rat} {a b:Nat} (hx:szR a x) (hy:szR b y):szR (a+b+1) (x+y):=by
 rw[←pM];have h1:=iX (y:=(y.den:Int)) hx.1 (by simpa using hy.2);have h2:=iX (y:=(x.den:Int)) hy.1 (by simpa using hx.2);rw[adZ b a] at h2;have h3:=iX (x:=(x.den:Int)) (y:=(y.den:Int)) (a:=a) (b:=b) (by simpa using hx.2) (by simpa using hy.2);exact yt (JV h1 h2) (adS h3 (adR (by omega) (by omega))) (ad1 (kM x) (kM y))
theorem PW {x y:Rat} {a b:Nat} (hx:szR a x) (hy:szR b y) (h0:y≠0):szR (a+b) (x / y):=by
 rw[←pI];have hn:y.num≠0:=fun h=>h0 (Rat.num_eq_zero.1 h)
 exact yt (iX (y:=(y.den:Int)) hx.1 (by simpa using hy.2)) (iX (x:=(x.den:Int)) (by simpa using hx.2) hy.1) (ad1 (kM x) hn)
def jQ (A:Mat) (σ:Nat→Nat) (k:Nat):Col:=fun i=>A (σ i) k
def jP:Nat→List Nat
 | 0=>[]
 | p+1=>p::jP p
theorem mem_revL {k:Nat}:∀ {p:Nat},k∈jP p↔k<p
 | 0=>by simp [jP]
 | p+1=>by
  simp only[jP,ado,mem_revL (p:=p)];omega
theorem ot:∀ p,(jP p).length=p
 | 0=>rfl
 | p+1=>by simp [jP,ot p]
theorem vt {l:Nat}:∀ {p:Nat},l<p→∃ X Y,jP p=X++l::Y∧∀ m,m∈X++Y↔m<p∧m≠l
 | 0,h=>by omega
 | p+1,h=>by
  by_cases hl:l=p
  ·subst hl
   refine⟨[],jP l,rfl,fun m=>?_⟩
   rw[adc,mem_revL];omega
  ·obtain⟨X,Y,h1,h2⟩:=vt (l:=l) (p:=p) (by omega)
   refine⟨p::X,Y,by simp [jP,h1],fun m=>?_⟩
   rw[ac7,ado,h2];omega
def nW (A:Mat) (σ:Nat→Nat) (p:Nat):List Col:=(jP p).map (jQ A σ)
theorem rc {n:Nat} {c c':Col} (X Y:List Col) (h:∀ i,i<n→c i=c' i):eJ n (X++c::Y)=eJ n (X++c'::Y):=by
 have:=wL (n:=n) (X.map (fun x=>(x,x))++(c,c')::Y.map (fun x=>(x,x))) Prod.fst Prod.snd (fun a ha i hi=>by
  simp only[adn,ado,adB] at ha;rcases ha with ⟨x,_,rfl⟩ | rfl | ⟨x,_,rfl⟩
  ·rfl
  ·exact h i hi
  ·rfl)
 simpa [Function.comp_def] using this
theorem Fv {A:Mat} {σ τ:Nat→Nat} {p:Nat} (h:∀ i,i<p→σ i=τ i):eJ p (nW A σ p)=eJ p (nW A τ p) :=
 wL _ _ _ fun a _ i hi=>by unfold jQ;rw[h i hi]
def Hu (N:Nat) (A Q:Mat) (σ:Nat→Nat) (p:Nat):Prop:=∀ i,i<N→∀ k,p≤k→k≤N→A (σ i) k=(if i<p then 0 else Q i k)+sumQ p fun l=>A (σ i) l*Q l k
def DI (N:Nat) (A Q:Mat) (p:Nat):Prop:=∃ σ:Nat→Nat,(∀ i,i<N→σ i<N)∧Hu N A Q σ p∧eJ p (nW A σ p)≠0
theorem DI.start (N:Nat) (A:Mat):DI N A A 0:=by
 refine⟨fun i=>i,fun i h=>h,fun i hi k _ hk=>?_,?_⟩
 ·rw[if_neg (by omega)];show A i k=A i k+0;grind
 ·show (1:Rat)≠0;decide
theorem M9 {p:Nat} (a x y:Nat→Rat) (t:Rat):sumQ p (fun l=>a l*(x l-y l*t))=sumQ p (fun l=>a l*x l)-t*sumQ p fun l=>a l*y l:=by
 have:(fun l=>a l*(x l-y l*t))=fun l=>a l*x l+(-t)*(a l*y l):=by funext l;grind
 rw[this,jT,mI];grind
theorem DI.step {N p s:Nat} {A Q:Mat} (h:DI N A Q p) (hp:p<N) (hs:p≤s) (hsN:s<N) (hne:Q s p≠0):DI N A (nw Q p p s) (p+1):=by
 obtain⟨σ,hσ,hr,hd⟩:=h
 let π:Nat→Nat:=fun i=>if i=s then p else if i=p then s else i
 have hπ:∀ i,dp Q p s i=Q (π i):=by
  intro i
  show (if i=s then Q p else if i=p then Q s else Q i)=Q (if i=s then p else if i=p then s else i)
  split
  ·rfl
  ·split<;>rfl
 have hπN:∀ i,i<N→π i<N:=fun i hi=>by show (if i=s then p else if i=p then s else i)<N;split<;>(try split)<;>omega
 have hπp:∀ i,i<p→π i=i:=fun i hi=>by show (if i=s then p else if i=p then s else i)=i;rw[if_neg (by omega),if_neg (by omega)]
 have hπq:∀ i,p≤i→p≤π i:=fun i hi=>by show p≤(if i=s then p else if i=p then s else i);split<;>(try split)<;>omega
 have hS:Hu N A (dp Q p s) (fun i=>σ (π i)) p:=by
  intro i hi k hk1 hk2;have:=hr (π i) (hπN i hi) k hk1 hk2;rw[this]
  congr 1
  ·by_cases hip:i<p
   ·rw[if_pos hip,if_pos (by rw[hπp i hip];exact hip)]
   ·rw[if_neg hip,if_neg (by have:=hπq i (by omega);omega),hπ]
  ·refine bI fun l hl=>?_
   rw[hπ l,hπp l hl]
 have hSp:dp Q p s p p≠0:=by rw[tw];exact hne
 generalize hSd:dp Q p s=S at *
 have hq:nw Q p p s=fun i k=>if i=p then S p k / S p p else S i k-S i p*(S p k / S p p):=by
  funext i k;unfold nw;rw[hSd]
 rw[hq]
 have hd':eJ p (nW A (fun i=>σ (π i)) p)≠0:=by
  rw[Fv (τ:=σ) fun i hi=>by show σ (π i)=σ i;rw[hπp i hi]]
  exact hd
 generalize hτ:(fun i=>σ (π i))=τ at *;refine⟨τ,fun i hi=>by rw[←hτ];exact hσ _ (hπN i hi),fun i hi k hk1 hk2=>?_,?_⟩
 ·have e1:=hS i hi k (by omega) hk2
  have e2:=hS i hi p (by omega) (by omega);simp only[sumQ,if_true];rw[bI (g:=fun l=>A (τ i) l*(S l k-S l p*(S p k / S p p))) fun l hl=>by rw[if_neg (by omega)],M9]
  generalize sumQ p (fun l=>A (τ i) l*S l k)=X at *;generalize sumQ p (fun l=>A (τ i) l*S l p)=Y at *
  by_cases h1:i<p
  ·rw[if_pos h1] at e1 e2
   rw[if_pos (by omega)];grind
  ·rw[if_neg h1] at e1 e2
   by_cases h2:i=p
   ·subst h2
    rw[if_pos (by omega)];grind
   ·rw[if_neg (by omega),if_neg h2]
    grind
 ·have hc:eJ (p+1) (nW A τ (p+1))=S p p*eJ p (nW A τ p):=by
   show eJ (p+1) ([]++jQ A τ p::nW A τ p)=_
   rw[rc (c':=zW (fun i=>if i<p then 0 else S i p) (fun i=>sumQ p fun l=>S l p*jQ A τ l i) 1) [] _ fun i hi=>by
    have:=hS i (by omega) p (by omega) (by omega)
    show A (τ i) p=(if i<p then 0 else S i p)+1*sumQ p fun l=>S l p*A (τ i) l
    rw[this,ac9]
    congr 1
    exact bI fun l _=>ad2 _ _]
   rw[ns,ou,gR fun l hl=>by
    rw[tM (by rw[adc];exact ad3 (mem_revL.2 hl))];exact acW _]
   rw[adc,Bv fun i hi=>if_pos hi,if_neg (by omega)]
   grind
  rw[hc];intro h0;rcases Rat.mul_eq_zero.1 h0 with h0 | h0
  ·exact hSp h0
  ·exact hd' h0
theorem z6 {N p l k:Nat} {A Q:Mat} {σ:Nat→Nat} (hr:Hu N A Q σ p) (hp:p≤N) (hl:l<p) (hk1:p≤k) (hk2:k≤N):∃ L:List Nat,L.length=p∧(∀ m∈L,m<p∨m=k)∧L.count k≤1∧Q l k*eJ p (nW A σ p)=eJ p (L.map (jQ A σ)):=by
 obtain⟨X,Y,hX,hm⟩:=vt hl;have hlen:=ot p;rw[hX] at hlen;refine⟨X++k::Y,by simp at hlen ⊢;omega,fun m hmm=>?_,?_,?_⟩
 ·have:m=k∨m∈X++Y:=by
   simp only[adn,ado] at hmm ⊢;rcases hmm with h | h | h<;>simp [h]
  rcases this with h | h
  ·exact .inr h
  ·exact .inl ((hm m).1 h).1
 ·have h0:∀ Z:List Nat,(∀ m∈Z,m∈X++Y)→Z.count k=0:=fun Z hZ=>List.count_eq_zero.2 fun hz=>by have:=((hm k).1 (hZ k hz)).1;omega
  rw[List.count_append,ad4,h0 X (by simp +contextual),h0 Y (by simp +contextual)];omega
 ·rw[adf,ac4]
  rw[rc (c':=fun i=>sumQ p fun m=>Q m k*jQ A σ m i) _ _ fun i hi=>by
   have:=hr i (by omega) k hk1 hk2;rw[if_pos hi] at this
   show A (σ i) k=sumQ p fun m=>Q m k*A (σ i) m
   rw[this,ad5];exact bI fun l _=>ad2 _ _]
  rw[ou,im hl fun m hmp hml=>by
   rw[tM (by rw[←adf];exact ad3 ((hm m).2 ⟨hmp,hml⟩))];exact acW _]
  unfold nW;rw[hX,adf,ac4]
theorem JR {N p i k:Nat} {A Q:Mat} {σ:Nat→Nat} (hr:Hu N A Q σ p) (hi1:p≤i) (hi2:i<N) (hk1:p≤k) (hk2:k≤N):Q i k*eJ p (nW A σ p)=eJ (p+1) ((k::jP p).map (jQ A fun j=>if j=p then σ i else σ j)):=by
 have hτ:∀ j,j<p→(fun j=>if j=p then σ i else σ j) j=σ j:=fun j hj=>if_neg (by omega)
 have hτp:(fun j=>if j=p then σ i else σ j) p=σ i:=if_pos rfl;generalize (fun j=>if j=p then σ i else σ j)=τ at *
 show _=eJ (p+1) ([]++jQ A τ k::nW A τ p)
 rw[rc (c':=zW (fun j=>if j<p then 0 else Q i k) (fun j=>sumQ p fun l=>Q l k*jQ A τ l j) 1) [] _ fun j hj=>by
  show A (τ j) k=(if j<p then 0 else Q i k)+1*sumQ p fun l=>Q l k*A (τ j) l
  rw[ac9]
  by_cases hjp:j<p
  ·have:=hr j (by omega) k hk1 hk2
   rw[if_pos hjp] at this ⊢;rw[hτ j hjp,this]
   congr 1
   exact bI fun l _=>ad2 _ _
  ·obtain rfl:j=p:=by omega
   have:=hr i hi2 k hk1 hk2;rw[if_neg (by omega)] at this;rw[if_neg hjp,hτp,this]
   congr 1
   exact bI fun l _=>ad2 _ _]
 rw[ns,ou,gR fun l hl=>by
  rw[tM (by rw[adc];exact ad3 (mem_revL.2 hl))];exact acW _]
 rw[adc,Bv fun i hi=>if_pos hi,if_neg (by omega),Fv fun j hj=>(hτ j hj).symm]
 grind
theorem Jn (n:Nat) (X Y:List Col) (x:Col) (a:Rat):eJ n (X++(fun i=>a*x i)::Y)=a*eJ n (X++x::Y):=by
 have:=ou n X Y (fun _=>a) (fun _=>x) 1;simp only[sumQ] at this;rw[ad5] at this;rw[←this];exact rc X Y fun i _=>(ad5 _).symm
theorem r6 (n:Nat) (D:Nat→Rat) (C:Nat→Col):∀ (L:List Nat) (X:List Col),∃ a:Rat,((∀ k∈L,D k≠0)→a≠0)∧eJ n (X++L.map fun k=>fun i=>D k*C k i)=a*eJ n (X++L.map C)
 | [],X=>⟨1,fun _=>by decide,by rw[ac9];rfl⟩
 | k::L,X=>by
  obtain⟨a,h1,h2⟩:=r6 n D C L (X++[C k]);refine⟨D k*a,fun h=>?_,?_⟩
  ·intro h0
   rcases Rat.mul_eq_zero.1 h0 with h0 | h0
   ·exact h k acO h0
   ·exact h1 (fun m hm=>h m (acP _ hm)) h0
  ·simp only[ac4,adb,ac7,adc] at h2 ⊢
   rw[Jn,h2,Rat.mul_assoc]
structure Scaled (N:Nat) (A:Mat) (b v:Nat):Prop where
 ex:∃ D:Nat→Nat,(∀ k,k≤N→0<D k∧D k≤2^(if k<N then b else v)∧∀ i,i<N→IZ (2^(if k<N then b else v)) (D k*A i k))
theorem Ao {α:Type} (f:α→Col) (x:α→Nat):∀ L:List α,jL (L.map fun k=>(f k,2^x k))=2^(L.map x).sum
 | []=>rfl
 | k::L=>by simp only[ac4,jL,Ao f x L,ad6,adY]
theorem Ik (x:Nat→Nat) (k b:Nat):∀ L:List Nat,(∀ m∈L,m≠k→x m≤b)→(L.map x).sum≤L.length*b+L.count k*x k
 | [],_=>by simp
 | m::L,h=>by
  have ih:=Ik x k b L fun n hn=>h n (acP _ hn)
  simp only[ac4,ad6,ac6,adl]
  by_cases hm:m=k
  ·subst hm
   rw[ad4,adl];omega
  ·rw[List.count_cons_of_ne hm]
   have:=h m acO hm;omega
theorem vq {N n c b v:Nat} {A:Mat} (hM:N^N≤2^c) (hn:n≤N) (hA:∀ k,k≤N→∀ i,i<N→IZ (2^(if k<N then b else v)) (A i k)) {σ:Nat→Nat} (hσ:∀ i,i<n→σ i<N) (L:List Nat) (hL:L.length≤N) (k:Nat) (hk:k≤N) (hm:∀ m∈L,m≠k→m<N) (hc:L.count k≤1) (e:Nat) (he:c+N*b+(if k<N then b else v)≤e) :
  IZ (2^e) (eJ n (L.map (jQ A σ))):=by
 let x:Nat→Nat:=fun k=>if k<N then b else v
 have h1:=I7 N n (L.map fun k=>(jQ A σ k,2^x k)) (fun p hp i hi=>by
  obtain⟨m,hmm,rfl⟩:=List.mem_map.1 hp
  have hmN:m≤N:=by
   by_cases hmk:m=k
   ·omega
   ·have:=hm m hmm hmk;omega
  exact hA m hmN (σ i) (hσ i hi)) (by rw[adG];exact hL)
 rw[adh,Ao] at h1;have hf:((fun p:Col × Nat=>p.1) ∘ fun k=>(jQ A σ k,2^x k))=jQ A σ:=rfl;rw[hf] at h1;refine h1.mono ?_
 have h2:=Ik x k b L fun m hmm hmk=>by
  show (if m<N then b else v)≤b;rw[if_pos (hm m hmm hmk)];exact acX _
 have h3:N^n≤2^c:=by
  rcases adX N with h0 | h0
  ·subst h0
   obtain rfl:n=0:=by omega
   exact hM
  ·exact adS (adR h0 hn) hM
 have h4:L.length*b≤N*b:=ads _ hL
 have h5:L.count k*x k≤x k:=by
  have:L.count k=0∨L.count k=1:=by omega
  rcases this with h | h<;>rw[h]<;>omega
 have h6:x k=if k<N then b else v:=rfl
 rw[←h6] at he
 calc N^n*2^(L.map x).sum≤2^c*2^(N*b+x k):=adk h3 (adR (by omega) (by omega))
  _=2^(c+(N*b+x k)):=by rw[←adY]
  _≤2^e:=adR (by omega) (by omega)
theorem DI.sz {N p c b v:Nat} {A Q:Mat} (hM:N^N≤2^c) (hA:Scaled N A b v) (h:DI N A Q p) (hp:p≤N) {i k:Nat} (hi:i<N) (hk1:p≤k) (hk2:k≤N):szR (c+(N+1)*b+(if k<N then b else v)) (Q i k):=by
 obtain⟨σ,hσ,hr,hd⟩:=h;obtain⟨D,hD⟩:=hA
 have hD0:∀ m,m≤N→((D m:Nat):Rat)≠0:=fun m hm=>by
  have:=(hD m hm).1;rw[Ne,ad7];omega
 -- the scaled matrix
 have hr2:Hu N (fun i k=>D k*A i k) (fun l k=>if l<p then D k*Q l k / D l else D k*Q l k) σ p:=by
  intro i hi k hk1 hk2;have:=hr i hi k hk1 hk2
  show (D k:Rat)*A (σ i) k=_;rw[this,ad8,←mI]
  congr 1
  ·split<;>grind
  ·refine bI fun l hl=>?_
   dsimp only;rw[if_pos hl];have:=hD0 l (by omega);grind
 have hd2:eJ p (nW (fun i k=>D k*A i k) σ p)≠0:=by
  obtain⟨a,h1,h2⟩:=r6 p (fun k=>(D k:Rat)) (jQ A σ) (jP p) [];have hcol:nW (fun i k=>D k*A i k) σ p=(jP p).map fun k=>fun i=>(D k:Rat)*jQ A σ k i:=rfl
  rw[adc,adc] at h2;rw[hcol,h2];intro h0;rcases Rat.mul_eq_zero.1 h0 with h0 | h0
  ·exact h1 (fun m hm=>hD0 m (by have:=mem_revL.1 hm;omega)) h0
  ·exact hd h0
 have hA2:∀ k,k≤N→∀ i,i<N→IZ (2^(if k<N then b else v)) ((fun i k=>(D k:Rat)*A i k) i k):=fun k hk i hi=>(hD k hk).2.2 i hi
 generalize hA2d:(fun (i k:Nat)=>(D k:Rat)*A i k)=A2 at *
 have hden:IZ (2^(c+N*b+b)) (eJ p (nW A2 σ p)):=by
  rcases adX N with h0 | h0
  ·omega
  ·refine vq hM hp hA2 (fun i hi=>hσ i (by omega)) (jP p) (by rw[ot];exact hp) 0 (by omega) (fun m hm _=>by have:=mem_revL.1 hm;omega) ?_ _ (by rw[if_pos h0];exact acX _)
   have:∀ p,(jP p).count 0≤1:=by
    intro p
    induction p with
    | zero=>simp [jP]
    | succ p ih =>
     simp only[jP];rw[ad9]
     by_cases hp0:p=0
     ·subst hp0;simp [jP]
     ·rw[if_neg (by simpa using hp0)];exact ih
   exact this p
 obtain⟨d,hdz,hdb⟩:=hden
 have hd0:d≠0:=by
  intro h0;rw[hdz,h0] at hd2;exact hd2 (by rfl)
 obtain⟨hDk0,hDkb,-⟩:=hD k hk2;have hsum:(N+1)*b=N*b+b:=adl N b
 by_cases hip:i<p
 ·obtain⟨L,hL1,hL2,hL3,hL4⟩:=z6 hr2 hp hip hk1 hk2
  obtain⟨m,hmz,hmb⟩:=vq hM hp hA2 (fun i hi=>hσ i (by omega)) L (by omega) k hk2 (fun m hm hmk=>by rcases hL2 m hm with h | h<;>omega) hL3 _ (acX _);rw[if_pos hip,hmz,hdz] at hL4;have hi0:=hD0 i (by omega)
  have he:Q i k*(((D k:Int)*d:Int):Rat)=(((D i:Int)*m:Int):Rat):=by
   rw[adi,adi,←hL4,aea,aea];grind
  obtain⟨f1,f2⟩:=fM (ad1 (by omega) hd0) he;obtain⟨-,hDib,-⟩:=hD i (by omega);rw[if_pos hi] at hDib;refine⟨adS f1 ?_,adS f2 ?_⟩
  ·rw[adj,adW]
   refine adS (adk hDib hmb) ?_;rw[←adY];exact adR (by omega) (by omega)
  ·rw[adj,adW]
   refine adS (adk hDkb hdb) ?_;rw[←adY];exact adR (by omega) (by omega)
 ·have hL4:=JR hr2 (by omega) hi hk1 hk2
  have hτ:∀ j,j<p+1→(fun j=>if j=p then σ i else σ j) j<N:=fun j hj=>by
   show (if j=p then σ i else σ j)<N
   split
   ·exact hσ i hi
   ·exact hσ j (by omega)
  obtain⟨m,hmz,hmb⟩:=vq (n:=p+1) hM (by omega) hA2 hτ (k::jP p) (by rw[ac6,ot];omega) k hk2 (fun m hm hmk=>by
   rcases List.mem_cons.1 hm with h | h
   ·exact absurd h hmk
   ·have:=mem_revL.1 h;omega) (by rw[ad4,List.count_eq_zero.2 fun hz=>by have:=mem_revL.1 hz;omega];omega) _ (acX _)
  rw[if_neg hip,hmz,hdz] at hL4
  have he:Q i k*(((D k:Int)*d:Int):Rat)=((m:Int):Rat):=by
   rw[adi,←hL4,aea];grind
  obtain⟨f1,f2⟩:=fM (ad1 (by omega) hd0) he;refine⟨adS f1 (adS hmb ?_),adS f2 ?_⟩
  ·exact adR (by omega) (by omega)
  ·rw[adj,adW]
   refine adS (adk hDkb hdb) ?_;rw[←adY];exact adR (by omega) (by omega)
theorem DI.cd {N c b v:Nat} {A Q:Mat} (hM:N^N≤2^c) (hA:Scaled N A b v) (h:DI N A Q N):∃ M:Nat,0<M∧M≤2^(c+(N+1)*b+v)∧∀ i,i<N→∃ z:Int,Q i N*(M:Rat)=(z:Rat):=by
 obtain⟨p,hpN⟩:∃ p,p=N:=⟨N,rfl⟩;have hp:p≤N:=by omega
 have h:DI N A Q p:=by rw[hpN];exact h
 obtain⟨σ,hσ,hr,hd⟩:=h;obtain⟨D,hD⟩:=hA
 have hD0:∀ m,m≤N→((D m:Nat):Rat)≠0:=fun m hm=>by
  have:=(hD m hm).1;rw[Ne,ad7];omega
 -- the scaled matrix
 have hr2:Hu N (fun i k=>D k*A i k) (fun l k=>if l<p then D k*Q l k / D l else D k*Q l k) σ p:=by
  intro i hi k hk1 hk2;have:=hr i hi k hk1 hk2
  show (D k:Rat)*A (σ i) k=_;rw[this,ad8,←mI]
  congr 1
  ·split<;>grind
  ·refine bI fun l hl=>?_
   dsimp only;rw[if_pos hl];have:=hD0 l (by omega);grind
 have hd2:eJ p (nW (fun i k=>D k*A i k) σ p)≠0:=by
  obtain⟨a,h1,h2⟩:=r6 p (fun k=>(D k:Rat)) (jQ A σ) (jP p) [];have hcol:nW (fun i k=>D k*A i k) σ p=(jP p).map fun k=>fun i=>(D k:Rat)*jQ A σ k i:=rfl
  rw[adc,adc] at h2;rw[hcol,h2];intro h0;rcases Rat.mul_eq_zero.1 h0 with h0 | h0
  ·exact h1 (fun m hm=>hD0 m (by have:=mem_revL.1 hm;omega)) h0
  ·exact hd h0
 have hA2:∀ k,k≤N→∀ i,i<N→IZ (2^(if k<N then b else v)) ((fun i k=>(D k:Rat)*A i k) i k):=fun k hk i hi=>(hD k hk).2.2 i hi
 generalize hA2d:(fun (i k:Nat)=>(D k:Rat)*A i k)=A2 at *
 have hden:IZ (2^(c+N*b+b)) (eJ p (nW A2 σ p)):=by
  rcases adX N with h0 | h0
  ·have hp0:p=0:=by omega
   subst hp0;exact⟨1,by rfl,aeb⟩
  ·refine vq hM hp hA2 (fun i hi=>hσ i (by omega)) (jP p) (by rw[ot];exact hp) 0 (by omega) (fun m hm _=>by have:=mem_revL.1 hm;omega) ?_ _ (by rw[if_pos h0];exact acX _)
   have:∀ p,(jP p).count 0≤1:=by
    intro p
    induction p with
    | zero=>simp [jP]
    | succ p ih =>
     simp only[jP];rw[ad9]
     by_cases hp0:p=0
     ·subst hp0;simp [jP]
     ·rw[if_neg (by simpa using hp0)];exact ih
   exact this p
 obtain⟨d,hdz,hdb⟩:=hden
 have hd0:d≠0:=by
  intro h0;rw[hdz,h0] at hd2;exact hd2 (by rfl)
 obtain⟨hDk0,hDkb,-⟩:=hD N (acX _);have hsum:(N+1)*b=N*b+b:=adl N b;rw[if_neg (by omega)] at hDkb
 have hcast:∃ s:Int,(s=1∨s = -1)∧(((D N:Int)*d).natAbs:Int)=s*((D N:Int)*d):=by
  rcases Int.natAbs_eq ((D N:Int)*d) with e | e
  ·exact⟨1,.inl rfl,by omega⟩
  ·exact⟨-1,.inr rfl,by omega⟩
 obtain⟨s,-,hs⟩:=hcast;have h0:(D N:Int)*d≠0:=ad1 (by omega) hd0;refine⟨((D N:Int)*d).natAbs,Int.natAbs_pos.2 h0,?_,fun i hi=>?_⟩
 ·rw[adj,adW]
  refine adS (adk hDkb hdb) ?_;rw[←adY];exact adR (by omega) (by omega)
 ·obtain⟨L,hL1,hL2,hL3,hL4⟩:=z6 hr2 hp (by omega:i<p) (by omega:p≤N) (acX N)
  obtain⟨m,hmz,hmb⟩:=vq hM hp hA2 (fun i hi=>hσ i (by omega)) L (by omega) N (acX _) (fun m hm hmk=>by rcases hL2 m hm with h | h<;>omega) hL3 _ (acX _);rw[if_pos (by omega),hmz,hdz] at hL4;have hi0:=hD0 i (by omega);refine⟨s*(D i*m),?_⟩;have e:((((D N:Int)*d).natAbs:Nat):Rat)=((((D N:Int)*d).natAbs:Int):Rat):=(aea _).symm;rw[e,hs,adi,adi,adi,adi,←hL4,aea,aea];grind
def bM (N:Nat) (x:Nat→Rat):List aG:=((acZ N).map x).map ah
theorem de (N:Nat) (x:Nat→Rat):(bM N x).length=N:=by simp [bM]
theorem eM {N k:Nat} (x:Nat→Rat) (h:k<N):(bM N x)[k]?=some (ah (x k)):=by
 unfold bM;rw[adt,adt,adu h];rfl
theorem qO {N:Nat} {l:List aG} {x:Nat→Rat} (hl:l.length=N) (h:∀ k,k<N→l[k]?=some (ah (x k))):l=bM N x:=by
 apply adv;intro k;rcases ada k N with hk | hk
 ·rw[h k hk,eM x hk]
 ·rw[adw (by omega),adw (by rw[de];omega)]
theorem js {N:Nat} {x y:Nat→Rat} (h:∀ k,k<N→x k=y k):bM N x=bM N y :=
 qO (de N x) fun k hk=>by rw[eM x hk,h k hk]
theorem ti {N:Nat} {x:Nat→Rat} (hN:N≤40) (h:∀ k,k<N→cr (x k)):okL (bM N x):=by
 refine⟨by rw[de];omega,fun f hf=>?_⟩
 obtain⟨k,hk⟩:=List.mem_iff_getElem?.1 hf;have hkN:k<N:=by have:=(List.getElem?_eq_some_iff.1 hk).1;rwa [de] at this
 rw[eM x hkN] at hk
 cases hk;exact d8 (h k hkN)
def N6 (N:Nat) (M:Mat) (x:Nat→Rat):Prop:=(∀ y,Ann N M (ext N y (-1))↔∀ k,k<N→y k=x k)∧∀ y,Ann N M (ext N y 0)→∀ k,k<N→y k=0
def Sing (N:Nat) (M:Mat):Prop:=∃ y,Ann N M (ext N y 0)∧∃ k,k<N∧y k≠0
theorem FQ {N:Nat} {rows:List MR} {Q:Mat} (h:EncM N rows Q):rows.map (j0 N)=bM N (fun i=>Q i N) :=
 qO (by rw[adG];exact h.1) fun k hk=>by
  obtain⟨x,hx,-,vx⟩:=h.row hk;rw[adt,hx,adH];unfold j0;rw[ac2,vx.get (acX _)]
  rfl
theorem Elim.lim {N:Nat} {Q Q':Mat} {rows:List MR} {p c:Nat} {pv:Nat→Nat} (h:Elim N Q Q' rows p c pv) {i k:Nat} (hi:i<N) (hk:k≤N):cr (Q' i k):=by
 obtain⟨x,-,-,vx⟩:=h.enc.row hi;exact vx.2 k hk
theorem sF {q:Rat} (h:cr q):ia 0 (-q)=true:=by
 unfold ia;simp only[ac1]
 have h1:okZ ((-q).num*((0:Rat).den:Int))=true:=by
  rw[ad0,aec];unfold okZ;rw[decide_eq_true_eq];have:=h.1;omega
 refine⟨?_,h1,?_,?_⟩
 ·rw[aed,aee];decide +kernel
 ·rw[aed,aee,Int.zero_add];exact h1
 ·rw[aec,Rat.neg_den]
  unfold okZ;rw[decide_eq_true_eq];have:=h.2;omega
theorem wx:cr 0:=⟨by decide +kernel,by decide +kernel⟩
theorem MM {N f:Nat} {rows:List MR} {Q:Mat} (h:EncM N rows Q) (hf:f<N):IO rows f N f=bM N (qr Q f) :=
 qO (JD _ _ _ _) fun k hk=>by
  unfold IO;rw[adt,adu hk,adH];unfold qr
  by_cases h1:k<f
  ·rw[if_pos h1,if_pos h1]
   obtain⟨x,-,ex,vx⟩:=h.row (i:=k) (by omega);rw[ex,vx.cell (by omega),←wn,rg wx (vx.2 f (by omega)),sF (vx.2 f (by omega))]
   rfl
  ·rw[if_neg h1,if_neg h1]
   by_cases h2:k=f
   ·rw[if_pos h2,if_pos h2,Ld]
   ·rw[if_neg h2,if_neg h2,wn]
theorem yU {N:Nat} {M Q:Mat} (h:∀ y,Ann N Q y↔Ann N M y):∀ y z,Ann N Q (ext N y z)↔Ann N M (ext N y z):=fun _ _=>h _
theorem AO {rs:List cL} {n:Int} (h:fu rs n=true) :
  (g8 rs n=([],6)) ∨
  (∃ x,g8 rs n=(bM rs.length x,0)∧Ks rs n=([],false)∧(∀ k,k<rs.length→cr (x k))∧N6 rs.length (kh rs) x) ∨
  (∃ y,g8 rs n=([],17)∧Ks rs n=(bM rs.length y,true)∧(∀ k,k<rs.length→cr (y k))∧Ann rs.length (kh rs) (ext rs.length y 0)∧∃ k,k<rs.length∧y k=1):=by
 unfold g8 Ks;rw[if_pos h];rcases hx:kg true rs with ⟨rows',free',bad⟩
 cases bad
 ·right
  obtain⟨Q,p,c,pv,he,-,hs⟩:=C4 true h hx;rw[if_pos h];rcases hs rfl with ⟨rfl,rfl,rfl,hpv⟩ | ⟨f,rfl,hf,rfl,rfl,hpv,hz⟩
  ·left
   refine⟨fun i=>Q i rs.length,?_,rfl,fun k hk=>he.lim hk (acX _),fun y=>?_,fun y hy=>?_⟩
   ·rw[if_neg (by simp),if_neg (by simp),FQ he.enc]
   ·rw[←yU he.ann]
    exact qG he.red hpv y
   ·exact z9 he.red hpv y ((yU he.ann y 0).2 hy)
  ·right
   refine⟨qr Q c,?_,?_,fun k hk=>?_,?_,⟨c,hf,by unfold qr;simp⟩⟩
   ·rw[if_neg (by simp),if_pos (by simp)]
   ·rw[if_neg (by simp)]
    exact congrArg (fun l=>(l,true)) (MM he.enc hf)
   ·unfold qr
    split
    ·exact EA (sF (he.lim hk (by omega)))
    ·split
     ·exact⟨by decide +kernel,by decide +kernel⟩
     ·exact wx
   ·exact (yU he.ann _ _).1 (vI he.red hpv hf hz)
 ·left
  rw[if_pos rfl]
theorem zV (Q:Mat) {N p s:Nat} (hp:p<N) (hs:p≤s) (hsN:s<N) {i:Nat} (hi:i<N):∃ i',i'<N∧dp Q p s i=Q i':=by
 unfold dp
 by_cases h1:i=s
 ·exact⟨p,hp,by rw[if_pos h1]⟩
 ·by_cases h2:i=p
  ·exact⟨s,hsN,by rw[if_neg h1,if_pos h2]⟩
  ·exact⟨i,hi,by rw[if_neg h1,if_neg h2]⟩
theorem ML (b:Nat) (p:Prop) [Decidable p]:szR b (if p then 1 else 0):=by
 have hb:1≤2^b:=aeb
 split
 ·exact⟨hb,hb⟩
 ·exact⟨acR _,hb⟩
theorem DI.all {N p c b v:Nat} {A Q:Mat} {pv:Nat→Nat} (hM:N^N≤2^c) (hA:Scaled N A b v) (hb:b≤v) (h:DI N A Q p) (hr:Red N Q p p pv) (hpv:∀ j,j<p→pv j=j) (hp:p≤N) {i k:Nat} (hi:i<N) (hk:k≤N):szR (c+(N+1)*b+v) (Q i k):=by
 by_cases hkp:k<p
 ·have:=hr.unit k hkp i hi
  rw[hpv k hkp] at this;rw[this];exact ML _ _
 ·refine (h.sz hM hA hp hi (by omega) hk).mono ?_
  split<;>omega
theorem GO {N p s c b v:Nat} {A Q:Mat} {pv:Nat→Nat} (hM:N^N≤2^c) (hA:Scaled N A b v) (hb:b≤v) (h:DI N A Q p) (hr:Red N Q p p pv) (hpv:∀ j,j<p→pv j=j) (hp:p<N) (hs:p≤s) (hsN:s<N) (hne:Q s p≠0) (hlim:2*(c+(N+1)*b+v)+(c+(N+2)*b)+1<1200):NP N (dp Q p s) p p:=by
 have h2:=h.step hp hs hsN hne;have hr2:=hr.piv hp hs hsN hne
 have hpv2:∀ j,j<p+1→(if j=p then p else pv j)=j:=fun j hj=>by
  split
  ·omega
  ·exact hpv j (by omega)
 have e1:(N+2)*b=(N+1)*b+b:=adl (N+1) b
 have hall:∀ i,i<N→∀ k,k≤N→szR (c+(N+1)*b+v) (dp Q p s i k):=by
  intro i hi k hk;obtain⟨i',h1,e⟩:=zV Q hp hs hsN hi;rw[e];exact h.all hM hA hb hr hpv (by omega) h1 hk
 have hcol:∀ i,i<N→szR (c+(N+2)*b) (dp Q p s i p):=by
  intro i hi;obtain⟨i',h1,e⟩:=zV Q hp hs hsN hi;rw[e];have:=h.sz hM hA (by omega) h1 (acX p) (by omega);rw[if_pos hp] at this;exact this.mono (by omega)
 have hquo:∀ k,k≤N→szR (c+(N+1)*b+v) (dp Q p s p k / dp Q p s p p):=by
  intro k hk;have:=h2.all hM hA hb hr2 hpv2 (by omega) (i:=p) hp hk;unfold nw at this
  rwa [if_pos rfl] at this
 refine⟨fun k hk=>AF (hall p hp k hk) (hcol p hp) (by omega),fun i hi _ _ k hk=>?_⟩
 unfold iy;rw[ac1];exact⟨tY (hcol i hi) (hquo k hk) (by omega),ig (hall i hi k hk) (nu (zd (hcol i hi) (hquo k hk))) (by omega)⟩
theorem El {N c b v:Nat} {A:Mat} (hM:N^N≤2^c) (hA:Scaled N A b v) (hb:b≤v) (hlim:2*(c+(N+1)*b+v)+(c+(N+2)*b)+1<1200) :
  ∀ k p rows Q pv,p+k=N→Elim N A Q rows p p pv→DI N A Q p→(∀ j,j<p→pv j=j)→(gf true k p rows [] false).2.2=false:=by
 intro k
 induction k with
 | zero=>intro p rows Q pv _ _ _ _;rfl
 | succ k ih =>
  intro p rows Q pv hp he hd hpv;unfold gf;rw[adO,Nat.sub_zero];rcases Aq he.enc (r:=p) (c:=p) (by omega) (by omega) with ⟨h1,h2,h3,h4⟩ | ⟨h1,s,hs1,hs2,hs3,h4,h5⟩
  ·rw[h1,h2,h3,if_pos rfl,if_pos rfl]
  ·have hok:=GO hM hA hb hd he.red hpv (by omega) hs1 hs2 hs3 hlim
   have hb:=h5 hok;rw[h1,if_neg (by simp),hb];refine ih (p+1) _ (nw Q p p s) (fun j=>if j=p then p else pv j) (by omega) ⟨h4 hb,he.red.piv (by omega) hs1 hs2 hs3,fun y=>(xO (by omega) hs2 hs3).trans (he.ann y)⟩ (hd.step (by omega) hs1 hs2 hs3) fun j hj=>?_
   show (if j=p then p else pv j)=j
   split
   ·omega
   ·exact hpv j (by omega)
theorem DD {rs:List cL} {n:Int} {c b v:Nat} (h:fu rs n=true) (hM:rs.length^rs.length≤2^c) (hA:Scaled rs.length (kh rs) b v) (hb:b≤v) (hlim:2*(c+(rs.length+1)*b+v)+(c+(rs.length+2)*b)+1<1200):g8 rs n≠([],6):=by
 have hx:(kg true rs).2.2=false :=
  El hM hA hb hlim rs.length 0 (dz rs) (kh rs) (fun j=>j) (by omega) ⟨EI h,oR _ _ _,fun _=>Iff.rfl⟩ (DI.start _ _) fun j hj=>by omega
 unfold g8;rw[if_pos h,if_neg (by rw[hx];simp)]
 split
 ·simp
 ·simp
theorem Dp {rs:List cL} {n:Int} {c b v:Nat} (h:fu rs n=true) (hM:rs.length^rs.length≤2^c) (hA:Scaled rs.length (kh rs) b v) (hb:b≤v) (hlim:2*(c+(rs.length+1)*b+v)+(c+(rs.length+2)*b)+1<1200) (hs:¬ Sing rs.length (kh rs)) :
  ∃ x,g8 rs n=(bM rs.length x,0)∧(∀ k,k<rs.length→cr (x k))∧N6 rs.length (kh rs) x:=by
 rcases AO h with e | ⟨x,e,-,h1,h2⟩ | ⟨y,-,-,-,h1,k,hk,hy⟩
 ·exact absurd e (DD h hM hA hb hlim)
 ·exact⟨x,e,h1,h2⟩
 ·exact absurd ⟨y,h1,k,hk,by rw[hy];decide⟩ hs
theorem DI.full {N:Nat} {A:Mat} (hs:¬ Sing N A):∀ k p Q pv,p+k=N→Red N Q p p pv→(∀ y,Ann N Q y↔Ann N A y)→DI N A Q p→(∀ j,j<p→pv j=j)→∃ Q pv,DI N A Q N∧Red N Q N N pv∧(∀ j,j<N→pv j=j)∧∀ y,Ann N Q y↔Ann N A y
 | 0,p,Q,pv,hp,hr,ha,hd,hpv=>by
  obtain rfl:p=N:=by omega
  exact⟨Q,pv,hd,hr,hpv,ha⟩
 | k+1,p,Q,pv,hp,hr,ha,hd,hpv=>by
  by_cases hz:∀ i,p≤i→i<N→Q i p=0
  ·exfalso
   refine hs ⟨qr Q p,(ha _).1 (vI hr hpv (by omega) hz),p,by omega,?_⟩
   unfold qr;rw[if_neg (by omega),if_pos rfl]
   decide
  ·have⟨s,hs1,hs2,hs3⟩:∃ s,p≤s∧s<N∧Q s p≠0:=by
    apply acQ;intro h;exact hz fun i h1 h2=>acQ fun h3=>h ⟨i,h1,h2,h3⟩
   refine DI.full hs k (p+1) (nw Q p p s) (fun j=>if j=p then p else pv j) (by omega) (hr.piv (by omega) hs1 hs2 hs3) (fun y=>(xO (by omega) hs2 hs3).trans (ha y)) (hd.step (by omega) hs1 hs2 hs3) fun j hj=>?_
   show (if j=p then p else pv j)=j
   split
   ·omega
   ·exact hpv j (by omega)
theorem KO {N c b v:Nat} {A:Mat} (hs:¬ Sing N A) (hM:N^N≤2^c) (hA:Scaled N A b v) {x:Nat→Rat} (hx:Ann N A (ext N x (-1))):∃ M:Nat,0<M∧M≤2^(c+(N+1)*b+v)∧∀ i,i<N→∃ z:Int,x i*(M:Rat)=(z:Rat):=by
 obtain⟨Q,pv,⟨σ,h1,h2,h3⟩,-⟩:=DI.full hs N 0 A (fun j=>j) (by omega) (oR _ _ _) (fun _=>Iff.rfl) (DI.start _ _) (fun j hj=>by omega);refine DI.cd (Q:=fun i _=>x i) hM hA ⟨σ,h1,fun i hi k hk1 hk2=>?_,h3⟩
 obtain rfl:k=N:=by omega
 rw[if_pos hi];have:=hx (σ i) (h1 i hi);rw[qm] at this;grind
theorem Aa {N:Nat} {A:Mat} (hs:¬ Sing N A):∃ x,Ann N A (ext N x (-1)):=by
 obtain⟨Q,pv,-,h1,h2,h3⟩:=DI.full hs N 0 A (fun j=>j) (by omega) (oR _ _ _) (fun _=>Iff.rfl) (DI.start _ _) (fun j hj=>by omega);exact⟨fun i=>Q i N,(h3 _).1 ((qG h1 h2 _).2 fun _ _=>rfl)⟩
end Go.Mini
