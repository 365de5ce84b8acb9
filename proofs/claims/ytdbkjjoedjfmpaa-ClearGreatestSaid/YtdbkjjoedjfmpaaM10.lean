/- A part of the proof. -/
import Derived.Test.YtdbkjjoedjfmpaaM09
set_option linter.unusedSimpArgs false
set_option linter.unusedVariables false
open Rat renaming le_refl → abJ, mul_zero → abK, mul_pos → abN, le_trans → abO, zero_mul → abP, intCast_add → ab1, intCast_sub → ab6, one_mul → ab7, intCast_mul → acg, intCast_eq_zero_iff → acT, divInt → acU, divInt_eq_div → acV, neg_num → ac0, mul_comm → ac2, zero_add → ac5, natCast_eq_zero_iff → ac7, mul_add → ac8, intCast_natCast → ada, zero_den → adc, zero_num → ade, add_zero → adg
open Nat renaming le_refl → abL, sub_self → abQ, lt_or_ge → ab8, mul_le_mul → aci, succ_mul → acj, mul_assoc → ack, mul_left_comm → acn, pow_succ → aco, mul_comm → acp, mul_le_mul_right → acq, add_zero → acA, zero_add → acL, pow_le_pow_right → acR, le_trans → acS, eq_zero_or_pos → acX, pow_add → acY, add_comm → acZ, one_le_two_pow → adb
open Classical renaming byContradiction → abM, choose → abR, choose_spec → abT
open List renaming range → abS, mem_filter → abU, mem_range → abV, getD_eq_getElem?_getD → abX, getElem?_eq_getElem → abY, getElem_mem → abZ, map_cons → ab0, mem_cons_self → ab2, mem_cons_of_mem → ab3, length_cons → ab4, cons_append → ab5, append_assoc → ab9, nil_append → aca, append_of_mem → acb, map_append → acd, map_nil → ace, map_map → acf, mem_append → acl, mem_cons → acm, getElem?_map → acr, getElem?_range → acs, ext_getElem? → act, getElem?_eq_none → acu, zipWith → acv, zip_cons_cons → acw, zipWith_cons_cons → acx, mem_map → acz, getElem?_cons_zero → acB, any_eq_false → acD, length_map → acE, length_set → acG, getElem?_set → acH, getElem_drop → acI, length_drop → acJ, findIdx_getElem → acK, length_nil → acM, mem_of_getElem? → acO, getElem?_append_left → acP, getElem?_append_right → acQ, mem_map_of_mem → ac3, count_cons_self → ac4, sum_cons → ac6, count_cons → ac9, filter_nil → adh
open Bool renaming and_eq_true → abW, or_false → acy, or_eq_true → acC, not_eq_true' → acN
open Int renaming natAbs_mul → ach, natAbs_natCast → acW, mul_ne_zero → ac1, zero_mul → adf
open Option renaming map_some → acF
namespace Go.Mini
open Classical
noncomputable def pos (x:Rat):Rat:=if x≤0 then 0 else x
theorem jt (x:Rat):0≤pos x:=by unfold pos;split<;>grind
theorem xv (x:Rat):x≤pos x:=by unfold pos;split<;>grind
theorem AY {x y:Rat} (h:x≤y):pos x≤pos y:=by unfold pos;split<;>split<;>grind
theorem lA {x:Rat} (h:0≤x):pos x=x:=by unfold pos;split<;>grind
theorem ie {x:Rat} (h:x≤0):pos x=0:=if_pos h
theorem kC {a x y:Rat} (ha:0≤a) (h:x≤y):a*x≤a*y:=Rat.mul_le_mul_of_nonneg_left h ha
theorem du {a x:Rat} (ha:0≤a) (h:0≤x):0≤a*x:=Rat.mul_nonneg ha h
noncomputable def Day.q (d:Day) (f:Nat→Nat) (h:Nat→Rat) (c:Cl):Rat:=if c.rk<f c.fr then c.am else if c.rk=f c.fr then d.w c*pos (h c.fr-d.U c.fr c.rk) else 0
noncomputable def Day.l (d:Day) (f:Nat→Nat) (P:Nat→Prop) (h:Nat→Rat) (c:Cl):Rat:=if c.rk<f c.fr then c.am else if c.rk=f c.fr∧P c.fr then d.w c*(h c.fr-d.U c.fr c.rk) else 0
noncomputable def Day.into (d:Day) (a:Cl→Rat) (i:Nat):Rat:=d.cash i+sumC d.cl fun c=>if c.to=(i:Int) then a c else 0
theorem Day.into_le {d:Day} {a b:Cl→Rat} (h:∀ c∈d.cl,a c≤b c) (i:Nat):d.into a i≤d.into b i:=by
 unfold Day.into
 have:=mL (l:=d.cl) (F:=fun c=>if c.to=(i:Int) then a c else 0) (G:=fun c=>if c.to=(i:Int) then b c else 0) fun c hc=>by
  try dsimp only
  split
  ·exact h c hc
  ·exact abJ
 grind
theorem Day.into_congr {d:Day} {a b:Cl→Rat} (h:∀ c∈d.cl,a c=b c) (i:Nat):d.into a i=d.into b i:=by
 unfold Day.into
 congr 1
 exact dV fun c hc=>by rw[h c hc]
theorem Day.into_sub (d:Day) (a b:Cl→Rat) (i:Nat):d.into a i-d.into b i=sumC d.cl fun c=>if c.to=(i:Int) then a c-b c else 0:=by
 unfold Day.into
 have:(fun c:Cl=>if c.to=(i:Int) then a c-b c else 0)=fun c=>(if c.to=(i:Int) then a c else 0)-(if c.to=(i:Int) then b c else 0):=by
  funext c;split<;>grind
 rw[this,nr];grind
noncomputable def Day.sumIn (d:Day) (C:Nat→Prop) (x:Nat→Rat):Rat:=sumQ d.n fun i=>if C i then x i else 0
theorem Day.sumIn_sub (d:Day) (C:Nat→Prop) (x y:Nat→Rat):d.sumIn C (fun i=>x i-y i)=d.sumIn C x-d.sumIn C y:=by
 unfold Day.sumIn;rw[←nP];exact bR fun k _=>by split<;>grind
theorem Day.sumIn_add (d:Day) (C:Nat→Prop) (x y:Nat→Rat):d.sumIn C (fun i=>x i+y i)=d.sumIn C x+d.sumIn C y:=by
 unfold Day.sumIn;rw[←kI];exact bR fun k _=>by split<;>grind
theorem Day.sumIn_le {d:Day} {C:Nat→Prop} {x y:Nat→Rat} (h:∀ i,i<d.n→C i→x i≤y i):d.sumIn C x≤d.sumIn C y:=by
 refine qa fun k hk=>?_
 by_cases hc:C k
 ·rw[if_pos hc,if_pos hc];exact h k hk hc
 ·rw[if_neg hc,if_neg hc];exact abJ
theorem Day.sumIn_congr {d:Day} {C:Nat→Prop} {x y:Nat→Rat} (h:∀ i,i<d.n→C i→x i=y i):d.sumIn C x=d.sumIn C y:=by
 refine bR fun k hk=>?_
 split
 ·exact h k hk (by assumption)
 ·rfl
theorem Day.sumIn_into {d:Day} {C:Nat→Prop} (hC:∀ i,C i→i<d.n) (a:Cl→Rat):d.sumIn C (d.into a)=d.sumIn C d.cash+sumC d.cl fun c=>if inC C c then a c else 0:=by
 rw[←BR C hC]
 show sumQ d.n _=sumQ d.n _+_;rw[←kI];refine bR fun k _=>?_
 unfold Day.into
 split<;>grind
def Day.closed (d:Day) (f:Nat→Nat) (C:Nat→Prop):Prop:=∀ c∈d.cl,C c.fr→c.rk=f c.fr→0<c.am→inC C c
noncomputable def Day.cap (d:Day) (f:Nat→Nat) (g:Nat→Rat) (C:Nat→Prop) (k:Nat):Rat:=if C k then d.U k (f k) else g k
section
variable {d:Day} {f:Nat→Nat} {P:Nat→Prop} {h g:Nat→Rat} {C:Nat→Prop} {c:Cl}
theorem Day.l_lt (h1:c.rk<f c.fr):d.l f P h c=c.am:=by unfold Day.l;rw[if_pos h1]
theorem Day.l_eq (h1:c.rk=f c.fr) (h2:P c.fr):d.l f P h c=d.w c*(h c.fr-d.U c.fr c.rk):=by
 unfold Day.l;rw[if_neg (by omega),if_pos ⟨h1,h2⟩]
theorem Day.l_no (h1:¬ c.rk<f c.fr) (h2:¬ (c.rk=f c.fr∧P c.fr)):d.l f P h c=0:=by
 unfold Day.l;rw[if_neg h1,if_neg h2]
theorem Day.q_lt (h1:c.rk<f c.fr):d.q f h c=c.am:=by unfold Day.q;rw[if_pos h1]
theorem Day.q_eq (h1:c.rk=f c.fr):d.q f h c=d.w c*pos (h c.fr-d.U c.fr c.rk):=by
 unfold Day.q;rw[if_neg (by omega),if_pos h1]
theorem Day.q_no (h1:¬ c.rk<f c.fr) (h2:¬ c.rk=f c.fr):d.q f h c=0:=by
 unfold Day.q;rw[if_neg h1,if_neg h2]
theorem mi (h:¬ C c.fr):d.q f (d.cap f g C) c=d.q f g c:=by
 unfold Day.q Day.cap;rw[if_neg h]
theorem l7 (h:C c.fr):d.q f (d.cap f g C) c=if c.rk<f c.fr then c.am else 0:=by
 by_cases h1:c.rk<f c.fr
 ·rw[if_pos h1,Day.q_lt h1]
 ·rw[if_neg h1]
  by_cases h2:c.rk=f c.fr
  ·rw[Day.q_eq h2]
   unfold Day.cap;rw[if_pos h,h2,ie (by grind),abK]
  ·rw[Day.q_no h1 h2]
end
structure Inv (d:Day) (f:Nat→Nat) (g:Nat→Rat):Prop where
 le:∀ i,f i≤10
 sup:∀ i,i<d.n→d.into (d.q f g) i≤g i
 lo:∀ i,i<d.n→f i<10→d.U i (f i)≤g i
 hi:∀ i,i<d.n→f i<10→g i<d.U i (f i+1)
 cl:∀ C:Nat→Prop,(∃ i,C i)→(∀ i,C i→i<d.n∧f i<10)→d.closed f C→d.sumIn C (d.into (d.q f (d.cap f g C)))<d.sumIn C fun i=>d.U i (f i)
theorem Inv.S_pos {d:Day} {f:Nat→Nat} {g:Nat→Rat} (h:Inv d f g) {i:Nat} (hi:i<d.n) (hf:f i<10):0<d.S i (f i):=by
 have h1:=h.lo i hi hf;have h2:=h.hi i hi hf;rw[d.U_succ] at h2;grind
theorem Inv.start {d:Day} (hd:d.OK):Inv d (fun _=>10) (d.into fun c=>c.am) :=
 ⟨fun _=>abL _,fun i _=>d.into_le (fun c hc=>by
  unfold Day.q;rw[if_pos (hd.rk c hc)];exact abJ) i,fun i _ h=>absurd h (by omega),fun i _ h=>absurd h (by omega),fun C ⟨i,hi⟩ h=>absurd (h i hi).2 (by omega)⟩
theorem Inv.flow {d:Day} {f:Nat→Nat} {g:Nat→Rat} (hi:Inv d f g) (hd:d.OK) {C:Nat→Prop} (h1:∃ i,C i) (h2:∀ i,C i→i<d.n∧f i<10) (h3:d.closed f C) (L:Cl→Rat) (e:Nat→Rat) (he:∀ k,k<d.n→C k→0≤e k)
  (hL:∀ c∈d.cl,inC C c→L c≤d.q f (d.cap f g C) c+if C c.fr∧c.rk=f c.fr then d.w c*e c.fr else 0):d.sumIn C (d.into L)<d.sumIn C fun i=>d.U i (f i)+e i:=by
 have k1:=hi.cl C h1 h2 h3;have hC:∀ i,C i→i<d.n:=fun i h=>(h2 i h).1
 have k2:=hd.sum_fr C f (fun k hk=>hi.S_pos (h2 k hk).1 (h2 k hk).2) e;rw[Day.sumIn_into hC] at k1 ⊢;rw[Day.sumIn_add]
 have k3:sumC d.cl (fun c=>if inC C c then L c else 0)≤sumC d.cl fun c=>(if inC C c then d.q f (d.cap f g C) c else 0)+(if C c.fr∧c.rk=f c.fr then d.w c*e c.fr else 0):=by
  refine mL fun c hc=>?_
  have h0:0≤if C c.fr∧c.rk=f c.fr then d.w c*e c.fr else 0:=by
   split
   ·exact du (hd.w_nonneg hc) (he _ (hd.fr c hc) (by rename_i h;exact h.1))
   ·exact abJ
  by_cases hin:inC C c
  ·rw[if_pos hin,if_pos hin];exact hL c hc hin
  ·rw[if_neg hin,if_neg hin];grind
 rw[rb,k2] at k3;have k4:d.sumIn C e=sumQ d.n fun k=>if C k then e k else 0:=rfl
 rw[←k4] at k3;grind
structure Pay (d:Day) (f:Nat→Nat) (g:Nat→Rat) (P:Nat→Prop) (h:Nat→Rat):Prop where
 fallen:∀ i,P i→i<d.n∧f i<10
 open':∀ C:Nat→Prop,(∃ i,C i)→(∀ i,C i→P i)→¬ d.closed f C
 sys:∀ i,i<d.n→h i=d.into (d.l f P h) i
 le:∀ i,i<d.n→h i≤g i
 ge:∀ i,P i→d.U i (f i)<h i
theorem ml {d:Day} {f:Nat→Nat} {g:Nat→Rat} (hi:Inv d f g) (hd:d.OK) {P:Nat→Prop} (hP:∀ i,P i→i<d.n∧f i<10) (ho:∀ C:Nat→Prop,(∃ i,C i)→(∀ i,C i→P i)→¬ d.closed f C) (x:Nat→Rat)
  (hx:∀ i,i<d.n→(sumC d.cl fun c=>if c.to=(i:Int) then (if c.rk=f c.fr∧P c.fr then d.w c*x c.fr else 0) else 0)≤x i):∀ i,i<d.n→0≤x i:=by
 have key:∀ i,P i→0≤x i:=by
  intro i0 hi0;apply abM;intro hneg;obtain⟨C,hCd⟩:∃ C:Nat→Prop,∀ i,C i↔P i∧x i<0:=⟨fun i=>P i∧x i<0,fun _=>Iff.rfl⟩
  have hC:∀ i,C i→i<d.n:=fun i h=>(hP i ((hCd i).1 h).1).1
  refine ho C ⟨i0,(hCd i0).2 ⟨hi0,by grind⟩⟩ (fun i h=>((hCd i).1 h).1) ?_
  have e1:=BR C hC d.cl fun c=>if c.rk=f c.fr∧P c.fr then d.w c*x c.fr else 0
  have e2:=hd.sum_fr C f (fun k hk=>hi.S_pos (hP k ((hCd k).1 hk).1).1 (hP k ((hCd k).1 hk).1).2) x
  have e3:sumQ d.n (fun i=>if C i then sumC d.cl (fun c=>if c.to=(i:Int) then (if c.rk=f c.fr∧P c.fr then d.w c*x c.fr else 0) else 0) else 0)≤sumQ d.n (fun k=>if C k then x k else 0):=by
   refine qa fun k hk=>?_
   by_cases hc:C k
   ·rw[if_pos hc,if_pos hc];exact hx k hk
   ·rw[if_neg hc,if_neg hc];exact abJ
  rw[e1,←e2] at e3;have e4:=rg (l:=d.cl) (F:=fun c=>(if inC C c then (if c.rk=f c.fr∧P c.fr then d.w c*x c.fr else 0) else 0)-(if C c.fr∧c.rk=f c.fr then d.w c*x c.fr else 0)) (fun c hc=>?_) (by rw[nr];grind)
  ·intro c hc hcC hrk ham
   apply abM;intro hin;have:=e4 c hc
   try dsimp only at this
   rw[if_neg hin,if_pos ⟨hcC,hrk⟩] at this;have h1:=hd.w_pos hc ham;have h2:=((hCd _).1 hcC).2;have h3:0<d.w c*(-x c.fr):=abN h1 (by grind);grind
  ·try dsimp only
   have h1:=hd.w_nonneg hc
   have hB:((if C c.fr∧c.rk=f c.fr then d.w c*x c.fr else 0)=(if c.rk=f c.fr∧P c.fr then d.w c*x c.fr else 0)∧(if C c.fr∧c.rk=f c.fr then d.w c*x c.fr else 0)≤0)∨((if C c.fr∧c.rk=f c.fr then d.w c*x c.fr else 0)=0∧0≤(if c.rk=f c.fr∧P c.fr then d.w c*x c.fr else 0)):=by
    by_cases hcC:C c.fr∧c.rk=f c.fr
    ·left
     have h2:=(hCd _).1 hcC.1;have h3:0≤d.w c*(-x c.fr):=du h1 (by have:=h2.2;grind);have h4:c.rk=f c.fr∧P c.fr:=⟨hcC.2,h2.1⟩;rw[if_pos hcC,if_pos h4];exact⟨rfl,by grind⟩
    ·right
     rw[if_neg hcC];refine⟨rfl,?_⟩
     split
     ·rename_i h2
      refine du h1 ?_;apply abM;intro h;exact hcC ⟨(hCd _).2 ⟨h2.2,by grind⟩,h2.1⟩
     ·exact abJ
   generalize (if C c.fr∧c.rk=f c.fr then d.w c*x c.fr else 0)=B at *;generalize (if c.rk=f c.fr∧P c.fr then d.w c*x c.fr else 0)=A at *;rcases hB with ⟨h2,h3⟩ | ⟨h2,h3⟩<;>split<;>grind
 intro i hin;refine abO ?_ (hx i hin);refine dT fun c hc=>?_
 split
 ·split
  ·rename_i h
   exact du (hd.w_nonneg hc) (key _ h.2)
  ·exact abJ
 ·exact abJ
theorem Day.l_sub (d:Day) (f:Nat→Nat) (P:Nat→Prop) (h h':Nat→Rat) (c:Cl):d.l f P h' c-d.l f P h c=if c.rk=f c.fr∧P c.fr then d.w c*(h' c.fr-h c.fr) else 0:=by
 unfold Day.l
 by_cases h1:c.rk<f c.fr
 ·rw[if_pos h1,if_pos h1,if_neg (by omega)];grind
 ·rw[if_neg h1,if_neg h1]
  split<;>grind
theorem B5 {d:Day} {f:Nat→Nat} {g:Nat→Rat} (hi:Inv d f g) (hd:d.OK) {P:Nat→Prop} (hP:∀ i,P i→i<d.n∧f i<10) (ho:∀ C:Nat→Prop,(∃ i,C i)→(∀ i,C i→P i)→¬ d.closed f C) {h h':Nat→Rat}
  (e:∀ i,i<d.n→h i=d.into (d.l f P h) i) (e':∀ i,i<d.n→h' i=d.into (d.l f P h') i):∀ i,i<d.n→h i=h' i:=by
 have main:∀ h h':Nat→Rat,(∀ i,i<d.n→h i=d.into (d.l f P h) i)→(∀ i,i<d.n→h' i=d.into (d.l f P h') i)→∀ i,i<d.n→0≤h' i-h i:=by
  intro h h' e e';refine ml hi hd hP ho (fun i=>h' i-h i) fun i hin=>?_
  rw[e i hin,e' i hin,d.into_sub];refine iy (dV fun c hc=>?_);rw[d.l_sub]
 intro i hin;have h1:=main h h' e e' i hin;have h2:=main h' h e' e i hin;grind
theorem Bz {d:Day} {f:Nat→Nat} {g:Nat→Rat} (hi:Inv d f g) (hd:d.OK) {P:Nat→Prop} (hP:∀ i,P i→i<d.n∧f i<10) (ho:∀ C:Nat→Prop,(∃ i,C i)→(∀ i,C i→P i)→¬ d.closed f C) (x:Nat→Rat)
  (hx:∀ i,i<d.n→x i=sumC d.cl fun c=>if c.to=(i:Int) then (if c.rk=f c.fr∧P c.fr then d.w c*x c.fr else 0) else 0):∀ i,i<d.n→x i=0:=by
 intro i hin;have h1:=ml hi hd hP ho x (fun i hin=>iy (hx i hin).symm) i hin;have h2:=ml hi hd hP ho (fun i => -x i) (fun i hin=>?_) i hin
 ·grind
 ·rw[hx i hin]
  refine iy ?_;have:∀ F:Cl→Rat,-(sumC d.cl F)=sumC d.cl fun c=>(-1)*F c:=fun F=>by rw[pK];grind
  rw[this];refine dV fun c hc=>?_
  split
  ·split<;>grind
  ·grind
theorem Day.l_le_q {d:Day} (hd:d.OK) {f:Nat→Nat} {P:Nat→Prop} {h g:Nat→Rat} (hle:∀ i,i<d.n→h i≤g i) {c:Cl} (hc:c∈d.cl):d.l f P h c≤d.q f g c:=by
 unfold Day.l Day.q
 by_cases h1:c.rk<f c.fr
 ·rw[if_pos h1,if_pos h1];exact abJ
 ·rw[if_neg h1,if_neg h1]
  by_cases h2:c.rk=f c.fr
  ·rw[if_pos h2]
   have hw:=hd.w_nonneg hc
   by_cases h3:P c.fr
   ·rw[if_pos ⟨h2,h3⟩]
    refine kC hw (abO ?_ (xv _));have:=hle _ (hd.fr c hc);grind
   ·rw[if_neg fun h=>h3 h.2]
    exact du hw (jt _)
  ·rw[if_neg fun h=>h2 h.1,if_neg h2];exact abJ
theorem Pay.start {d:Day} (hd:d.OK) {f:Nat→Nat} {g:Nat→Rat} (hi:Inv d f g) {h:Nat→Rat} (hs:∀ i,i<d.n→h i=d.into (d.l f (fun _=>False) h) i):Pay d f g (fun _=>False) h :=
 ⟨fun i h=>h.elim,fun C ⟨i,h⟩ h'=>(h' i h).elim,hs,fun i hin=>by
  rw[hs i hin];refine abO (d.into_le (b:=d.q f g) (fun c hc=>?_) i) (hi.sup i hin);unfold Day.l Day.q
  by_cases h1:c.rk<f c.fr
  ·rw[if_pos h1,if_pos h1];exact abJ
  ·rw[if_neg h1,if_neg h1,if_neg fun h=>h.2]
   split
   ·exact du (hd.w_nonneg hc) (jt _)
   ·exact abJ,fun i h=>h.elim⟩
def li (d:Day) (f:Nat→Nat) (P:Nat→Prop) (h:Nat→Rat) (i:Nat):Prop:=P i∨(i<d.n∧f i<10∧d.U i (f i)<h i)
theorem Pay.next_fallen {d:Day} {f:Nat→Nat} {g:Nat→Rat} {P:Nat→Prop} {h:Nat→Rat} (hp:Pay d f g P h):∀ i,li d f P h i→i<d.n∧f i<10:=fun i hn=>hn.elim (hp.fallen i) fun h=>⟨h.1,h.2.1⟩
theorem Pay.next_gt {d:Day} {f:Nat→Nat} {g:Nat→Rat} {P:Nat→Prop} {h:Nat→Rat} (hp:Pay d f g P h):∀ i,li d f P h i→d.U i (f i)<h i:=fun i hn=>hn.elim (hp.ge i) fun h=>h.2.2
theorem Pay.next_open {d:Day} (hd:d.OK) {f:Nat→Nat} {g:Nat→Rat} (hi:Inv d f g) {P:Nat→Prop} {h:Nat→Rat} (hp:Pay d f g P h):∀ C:Nat→Prop,(∃ i,C i)→(∀ i,C i→li d f P h i)→¬ d.closed f C:=by
 intro C h1 h2 h3;have hf:∀ i,C i→i<d.n∧f i<10:=fun i hc=>hp.next_fallen i (h2 i hc)
 have hfl:=hi.flow hd h1 hf h3 (d.l f P h) (fun k=>if P k then h k-d.U k (f k) else 0) (fun k _ hk=>by
  try dsimp only
  split
  ·have:=hp.ge k (by assumption);grind
  ·exact abJ) fun c hc _=>by
   by_cases k3:C c.fr
   ·rw[l7 k3]
    by_cases k1:c.rk<f c.fr
    ·rw[Day.l_lt k1,if_pos k1,if_neg (fun h=>by have:=h.2;omega)];grind
    ·rw[if_neg k1]
     by_cases k2:c.rk=f c.fr
     ·have k5:C c.fr∧c.rk=f c.fr:=⟨k3,k2⟩
      rw[if_pos k5]
      by_cases k4:P c.fr
      ·rw[Day.l_eq k2 k4,if_pos k4,k2];grind
      ·rw[Day.l_no k1 (fun h=>k4 h.2),if_neg k4];grind
     ·rw[Day.l_no k1 (fun h=>k2 h.1),if_neg fun h=>k2 h.2];grind
   ·rw[mi k3,if_neg fun h=>k3 h.1]
    have:=Day.l_le_q hd (P:=P) (f:=f) hp.le hc;grind
 have e:d.sumIn C (d.into (d.l f P h))=d.sumIn C h:=Day.sumIn_congr fun i hin _=>(hp.sys i hin).symm
 rw[e] at hfl
 have:d.sumIn C (fun i=>d.U i (f i)+if P i then h i-d.U i (f i) else 0)≤d.sumIn C h:=by
  refine Day.sumIn_le fun i hin hc=>?_
  have:=hp.next_gt i (h2 i hc)
  split<;>grind
 grind
theorem Pay.next {d:Day} (hd:d.OK) {f:Nat→Nat} {g:Nat→Rat} (hi:Inv d f g) {P:Nat→Prop} {h h':Nat→Rat} (hp:Pay d f g P h) (hs:∀ i,i<d.n→h' i=d.into (d.l f (li d f P h) h') i):Pay d f g (li d f P h) h':=by
 have ho:=hp.next_open hd hi
 have hup:∀ i,i<d.n→0≤h' i-h i:=by
  refine ml hi hd hp.next_fallen ho (fun i=>h' i-h i) fun i hin=>?_
  rw[hs i hin,hp.sys i hin,d.into_sub];refine mL fun c hc=>?_
  have hw:=hd.w_nonneg hc
  split
  ·unfold Day.l
   by_cases h1:c.rk<f c.fr
   ·rw[if_pos h1,if_pos h1,if_neg (by omega)];grind
   ·rw[if_neg h1,if_neg h1]
    by_cases h2:c.rk=f c.fr
    ·by_cases h3:li d f P h c.fr
     ·rw[if_pos ⟨h2,h3⟩,if_pos ⟨h2,h3⟩]
      by_cases h4:P c.fr
      ·rw[if_pos ⟨h2,h4⟩];grind
      ·rw[if_neg fun h=>h4 h.2]
       have h5:=hp.next_gt _ h3;have:=du hw (show 0≤h c.fr-d.U c.fr c.rk by rw[h2];grind);grind
     ·rw[if_neg fun h=>h3 h.2,if_neg fun h=>h3 h.2,if_neg fun h=>h3 (.inl h.2)];grind
    ·rw[if_neg fun h=>h2 h.1,if_neg fun h=>h2 h.1,if_neg fun h=>h2 h.1];grind
  ·exact abJ
 have hle:∀ i,i<d.n→0≤g i-h' i:=by
  refine ml hi hd hp.next_fallen ho (fun i=>g i-h' i) fun i hin=>?_
  refine abO ?_ (show d.into (d.q f g) i-h' i≤g i-h' i by have:=hi.sup i hin;grind);rw[hs i hin,d.into_sub];refine mL fun c hc=>?_
  have hw:=hd.w_nonneg hc
  split
  ·unfold Day.l Day.q
   by_cases h1:c.rk<f c.fr
   ·rw[if_pos h1,if_pos h1,if_neg (by omega)];grind
   ·rw[if_neg h1,if_neg h1]
    by_cases h2:c.rk=f c.fr
    ·rw[if_pos h2]
     by_cases h3:li d f P h c.fr
     ·rw[if_pos ⟨h2,h3⟩,if_pos ⟨h2,h3⟩]
      have:=kC hw (xv (g c.fr-d.U c.fr c.rk));grind
     ·rw[if_neg fun h=>h3 h.2,if_neg fun h=>h3 h.2]
      have:=du hw (jt (g c.fr-d.U c.fr c.rk));grind
    ·rw[if_neg fun h=>h2 h.1,if_neg h2,if_neg fun h=>h2 h.1];grind
  ·exact abJ
 exact⟨hp.next_fallen,ho,hs,fun i hin=>by have:=hle i hin;grind,fun i hn=>by
  have h1:=hp.next_gt i hn;have h2:=hup i (hp.next_fallen i hn).1;grind⟩
theorem Pay.stop {d:Day} (hd:d.OK) {f:Nat→Nat} {g:Nat→Rat} {P:Nat→Prop} {h:Nat→Rat} (hp:Pay d f g P h) (hi:Inv d f g) (hstop:∀ i,i<d.n→f i<10→d.U i (f i)<h i→P i):∀ i,i<d.n→h i=d.into (d.q f h) i:=by
 intro i hin;rw[hp.sys i hin];refine d.into_congr (fun c hc=>?_) i;unfold Day.l Day.q
 by_cases h1:c.rk<f c.fr
 ·rw[if_pos h1,if_pos h1]
 ·rw[if_neg h1,if_neg h1]
  by_cases h2:c.rk=f c.fr
  ·rw[if_pos h2]
   by_cases h3:P c.fr
   ·rw[if_pos ⟨h2,h3⟩,lA]
    have:=hp.ge _ h3;rw[h2];grind
   ·rw[if_neg fun h=>h3 h.2,ie]
    ·grind
    ·apply abM
     intro hn;refine h3 (hstop _ (hd.fr c hc) (by rw[←h2];exact hd.rk c hc) ?_);rw[←h2];grind
  ·rw[if_neg fun h=>h2 h.1,if_neg h2]
end Go.Mini
namespace Go.Mini
open Classical
noncomputable def Day.pay (d:Day) (h:Nat→Rat) (c:Cl):Rat:=if d.U c.fr (c.rk+1)≤h c.fr then c.am else d.w c*pos (h c.fr-d.U c.fr c.rk)
theorem Day.OK.w_le {d:Day} (hd:d.OK) {c:Cl} (hc:c∈d.cl) {x:Rat} (h:x≤d.S c.fr c.rk):d.w c*x≤c.am:=by
 have h0:=hd.am c hc;have h1:=hd.am_le hc
 by_cases hS:0<d.S c.fr c.rk
 ·have:=kC (hd.w_nonneg hc) h
  rw[Day.w_S hS] at this;exact this
 ·rw[Day.w_zero (by grind),abP];exact h0
theorem Day.OK.pay_le {d:Day} (hd:d.OK) (h:Nat→Rat) {c:Cl} (hc:c∈d.cl):d.pay h c≤c.am:=by
 unfold Day.pay
 split
 ·exact abJ
 ·rename_i hn
  refine hd.w_le hc ?_;rw[d.U_succ] at hn;have:=hd.S_nonneg c.fr c.rk;unfold pos
  split<;>grind
theorem Day.OK.pay_nonneg {d:Day} (hd:d.OK) (h:Nat→Rat) {c:Cl} (hc:c∈d.cl):0≤d.pay h c:=by
 unfold Day.pay
 split
 ·exact hd.am c hc
 ·exact du (hd.w_nonneg hc) (jt _)
theorem Day.OK.q_nonneg {d:Day} (hd:d.OK) (f:Nat→Nat) (h:Nat→Rat) {c:Cl} (hc:c∈d.cl):0≤d.q f h c:=by
 unfold Day.q
 split
 ·exact hd.am c hc
 ·split
  ·exact du (hd.w_nonneg hc) (jt _)
  ·exact abJ
theorem Day.OK.into_nonneg {d:Day} (hd:d.OK) {a:Cl→Rat} (h:∀ c∈d.cl,0≤a c) {i:Nat} (hi:i<d.n):0≤d.into a i:=by
 unfold Day.into;have h1:=hd.cash i hi
 have:=dT (l:=d.cl) (F:=fun c=>if c.to=(i:Int) then a c else 0) fun c hc=>by
  try dsimp only
  split
  ·exact h c hc
  ·exact abJ
 grind
theorem Day.OK.q_mono {d:Day} (hd:d.OK) {f:Nat→Nat} {h g:Nat→Rat} {c:Cl} (hc:c∈d.cl) (hle:h c.fr≤g c.fr):d.q f h c≤d.q f g c:=by
 unfold Day.q
 split
 ·exact abJ
 ·split
  ·exact kC (hd.w_nonneg hc) (AY (by grind))
  ·exact abJ
def Du (d:Day) (f:Nat→Nat) (h:Nat→Rat) (f':Nat→Nat):Prop:=(∀ i,f' i≤10)∧(∀ i,i<d.n→h i<d.U i (f i)→f' i<f i∧d.U i (f' i)≤h i∧h i<d.U i (f' i+1))∧∀ i,i<d.n→d.U i (f i)≤h i→f' i=f i
theorem CQ {d:Day} (hd:d.OK) {f f':Nat→Nat} {h:Nat→Rat} (hf:Du d f h f') {c:Cl} (hc:c∈d.cl):d.q f' h c≤d.q f h c:=by
 obtain⟨-,h1,h2⟩:=hf;have hfr:=hd.fr c hc
 by_cases hF:h c.fr<d.U c.fr (f c.fr)
 ·obtain⟨k1,k2,k3⟩:=h1 _ hfr hF
  unfold Day.q
  by_cases r1:c.rk<f' c.fr
  ·rw[if_pos r1,if_pos (by omega)];exact abJ
  ·rw[if_neg r1]
   by_cases r2:c.rk=f' c.fr
   ·rw[if_pos r2,if_pos (by omega)]
    rw[←r2] at k2 k3;rw[d.U_succ] at k3;exact hd.w_le hc (by rw[lA (by grind)];grind)
   ·rw[if_neg r2]
    exact hd.q_nonneg f h hc
 ·have:=h2 _ hfr (by grind)
  unfold Day.q;rw[this];exact abJ
theorem Inv.fall {d:Day} (hd:d.OK) {f f':Nat→Nat} {g h:Nat→Rat} (hi:Inv d f g) (hfix:∀ i,i<d.n→h i=d.into (d.q f h) i) (hle:∀ i,i<d.n→h i≤g i) (hf:Du d f h f'):Inv d f' h:=by
 have hlo:∀ i,i<d.n→f' i<10→d.U i (f' i)≤h i:=by
  intro i hin hf1
  by_cases hF:h i<d.U i (f i)
  ·exact (hf.2.1 i hin hF).2.1
  ·rw[hf.2.2 i hin (by grind)];grind
 have hhi:∀ i,i<d.n→f' i<10→h i<d.U i (f' i+1):=by
  intro i hin hf1
  by_cases hF:h i<d.U i (f i)
  ·exact (hf.2.1 i hin hF).2.2
  ·have e:=hf.2.2 i hin (by grind)
   rw[e] at hf1 ⊢;have:=hi.hi i hin hf1;have:=hle i hin;grind
 have hS:∀ i,i<d.n→f' i<10→0<d.S i (f' i):=by
  intro i hin hf1;have h1:=hlo i hin hf1;have h2:=hhi i hin hf1;rw[d.U_succ] at h2;grind
 refine⟨hf.1,fun i hin=>?_,hlo,hhi,fun C h1 h2 h3=>?_⟩
 ·exact abO (d.into_le (fun c hc=>CQ hd hf hc) i) (iy (hfix i hin).symm)
 ·have hC:∀ i,C i→i<d.n:=fun i hc=>(h2 i hc).1
  by_cases hex:∃ k,C k∧h k<d.U k (f k)
  ·obtain⟨k0,hk0,hF⟩:=hex
   have hk0n:=hC k0 hk0;obtain⟨b1,b2,b3⟩:=hf.2.1 k0 hk0n hF;have hs0:=hS k0 hk0n (h2 k0 hk0).2;obtain⟨c0,hc0,hp0⟩:=sS hs0
   have hc0':c0.fr=k0∧c0.rk=f' k0∧0<c0.am:=by
    by_cases hh:c0.fr=k0∧c0.rk=f' k0
    ·rw[if_pos hh] at hp0;exact⟨hh.1,hh.2,hp0⟩
    ·rw[if_neg hh] at hp0;exact absurd hp0 (by grind)
   obtain⟨a1,a2,a3⟩:=hc0';have e1:=Day.sumIn_into hC (d.q f h);have e2:=Day.sumIn_into hC (d.q f' (d.cap f' h C));have e3:d.sumIn C (d.into (d.q f h))=d.sumIn C h:=Day.sumIn_congr fun i hin _=>(hfix i hin).symm
   have e4:=hd.sum_fr C f' (fun k hk=>hS k (hC k hk) (h2 k hk).2) fun k=>h k-d.U k (f' k)
   have e5:d.sumIn C (fun k=>h k-d.U k (f' k))=sumQ d.n fun k=>if C k then h k-d.U k (f' k) else 0:=rfl
   rw[←e5,d.sumIn_sub] at e4
   have e6:sumC d.cl (fun c=>(if inC C c then d.q f' (d.cap f' h C) c else 0)+(if C c.fr∧c.rk=f' c.fr then d.w c*(h c.fr-d.U c.fr (f' c.fr)) else 0))<sumC d.cl (fun c=>if inC C c then d.q f h c else 0):=by
    refine Ml (fun c hc=>?_) hc0 ?_
    ·have hfr:=hd.fr c hc
     by_cases hin:inC C c
     ·rw[if_pos hin,if_pos hin]
      by_cases hcC:C c.fr
      ·rw[l7 hcC]
       by_cases r1:c.rk<f' c.fr
       ·rw[if_pos r1,if_neg (by omega)]
        have:c.rk<f c.fr:=by
         by_cases hF:h c.fr<d.U c.fr (f c.fr)
         ·have:=(hf.2.1 _ hfr hF).1;omega
         ·rw[←hf.2.2 _ hfr (by grind)];exact r1
        unfold Day.q;rw[if_pos this];grind
       ·rw[if_neg r1]
        by_cases r2:c.rk=f' c.fr
        ·rw[if_pos ⟨hcC,r2⟩]
         by_cases hF:h c.fr<d.U c.fr (f c.fr)
         ·obtain⟨k1,k2,k3⟩:=hf.2.1 _ hfr hF
          unfold Day.q;rw[if_pos (by omega)];rw[d.U_succ] at k3;have:=hd.w_le hc (x:=h c.fr-d.U c.fr (f' c.fr)) (by rw[r2];grind);grind
         ·have e:=hf.2.2 _ hfr (by grind)
          rw[e] at r1 r2 ⊢;unfold Day.q;rw[if_neg r1,if_pos r2,←r2];have:=kC (hd.w_nonneg hc) (xv (h c.fr-d.U c.fr c.rk));grind
        ·rw[if_neg fun h=>r2 h.2]
         have:=hd.q_nonneg f h hc;grind
      ·rw[mi hcC,if_neg fun h=>hcC h.1]
       have:=CQ hd hf hc;grind
     ·rw[if_neg hin,if_neg hin]
      by_cases hcC:C c.fr∧c.rk=f' c.fr
      ·rw[if_pos hcC]
       have:c.am=0:=by
        have h0:=hd.am c hc
        by_cases hp:0<c.am
        ·exact absurd (h3 c hc hcC.1 hcC.2 hp) hin
        ·grind
       rw[Day.w_zero this];grind
      ·rw[if_neg hcC];grind
    ·have hcC:C c0.fr:=by rw[a1];exact hk0
     have hrk:c0.rk=f' c0.fr:=by rw[a1];exact a2
     have hin:=h3 c0 hc0 hcC hrk a3;rw[if_pos hin,if_pos hin,l7 hcC,if_neg (by omega),if_pos ⟨hcC,hrk⟩];unfold Day.q;rw[if_pos (by rw[a1];omega)];have hw:=hd.w_pos hc0 a3;have hws:=d.w_S (c:=c0) (by rw[a1,a2];exact hs0);rw[d.U_succ] at b3;rw[←a1,←hrk] at b3;rw[←hrk];have:0<d.w c0*(d.S c0.fr c0.rk-(h c0.fr-d.U c0.fr c0.rk)):=abN hw (by rw[a1] at b3 ⊢;grind);grind
   rw[rb,e4] at e6;grind
  ·have hsame:∀ k,C k→f' k=f k:=fun k hk=>hf.2.2 k (hC k hk) (by
    apply abM;intro hn;exact hex ⟨k,hk,by grind⟩)
   have k1:=hi.cl C h1 (fun i hc=>⟨hC i hc,by rw[←hsame i hc];exact (h2 i hc).2⟩) (fun c hc hcC hrk ham=>h3 c hc hcC (by rw[hsame _ hcC];exact hrk) ham);have k2:d.sumIn C (fun i=>d.U i (f' i))=d.sumIn C fun i=>d.U i (f i):=Day.sumIn_congr fun i _ hc=>by rw[hsame i hc]
   rw[k2]
   have k3:d.sumIn C (d.into (d.q f' (d.cap f' h C)))≤d.sumIn C (d.into (d.q f (d.cap f g C))):=by
    refine Day.sumIn_le fun i _ _=>d.into_le (fun c hc=>?_) i
    by_cases hcC:C c.fr
    ·rw[l7 hcC,l7 hcC,hsame _ hcC];exact abJ
    ·rw[mi hcC,mi hcC]
     exact abO (CQ hd hf hc) (hd.q_mono hc (hle _ (hd.fr c hc)))
   grind
noncomputable def Day.phi (d:Day) (h:Nat→Rat) (i:Nat):Rat:=d.into (d.pay h) i
theorem HN {d:Day} (hd:d.OK) {f:Nat→Nat} {g z:Nat→Rat} (hi:Inv d f g) (hz:∀ i,i<d.n→z i≤g i) {c:Cl} (hc:c∈d.cl):d.pay z c≤d.q f z c:=by
 have hfr:=hd.fr c hc;have hrk:=hd.rk c hc;unfold Day.q
 by_cases r1:c.rk<f c.fr
 ·rw[if_pos r1];exact hd.pay_le z hc
 ·rw[if_neg r1]
  have h10:f c.fr<10:=by omega
  have h1:=hi.hi _ hfr h10;have h2:=hz _ hfr
  by_cases r2:c.rk=f c.fr
  ·rw[if_pos r2]
   unfold Day.pay;rw[if_neg (by rw[r2];grind)];exact abJ
  ·rw[if_neg r2]
   have h3:=hd.U_mono c.fr (r:=f c.fr+1) (s:=c.rk) (by omega);have h4:=hd.U_mono c.fr (r:=c.rk) (s:=c.rk+1) (by omega);unfold Day.pay;rw[if_neg (by grind),ie (by grind),abK];exact abJ
theorem Inv.above {d:Day} (hd:d.OK) {f:Nat→Nat} {g h z:Nat→Rat} (hi:Inv d f g) (hfix:∀ i,i<d.n→h i=d.into (d.q f h) i) (hle:∀ i,i<d.n→h i≤g i) (hz:∀ i,i<d.n→z i≤d.into (d.q f z) i):∀ i,i<d.n→z i≤h i:=by
 intro i0 hi0;apply abM;intro hneg;obtain⟨C,hCd⟩:∃ C:Nat→Prop,∀ i,C i↔i<d.n∧h i<z i:=⟨fun i=>i<d.n∧h i<z i,fun _=>Iff.rfl⟩
 obtain⟨Cf,hFd⟩:∃ C':Nat→Prop,∀ i,C' i↔C i∧f i<10:=⟨fun i=>C i∧f i<10,fun _=>Iff.rfl⟩
 have hC:∀ i,C i→i<d.n:=fun i h=>((hCd i).1 h).1
 have hCl:∀ i,C i→h i<z i:=fun i h=>((hCd i).1 h).2
 have hne:∃ i,C i:=⟨i0,(hCd i0).2 ⟨hi0,by grind⟩⟩
 have e1:=BR C hC d.cl fun c=>d.q f z c-d.q f h c
 have e2:=hd.sum_fr Cf f (fun k hk=>hi.S_pos (hC k ((hFd k).1 hk).1) ((hFd k).1 hk).2) fun k=>z k-h k
 have e3:d.sumIn C (fun i=>z i-h i)≤sumQ d.n fun i=>if C i then sumC d.cl (fun c=>if c.to=(i:Int) then d.q f z c-d.q f h c else 0) else 0:=by
  refine qa fun k hk=>?_
  by_cases hc:C k
  ·rw[if_pos hc,if_pos hc,←d.into_sub,←hfix k hk]
   have h1:=hz k hk;grind
  ·rw[if_neg hc,if_neg hc];exact abJ
 rw[e1] at e3
 have e4:sumQ d.n (fun k=>if Cf k then z k-h k else 0)≤d.sumIn C (fun i=>z i-h i):=by
  refine qa fun k hk=>?_
  by_cases hc:C k
  ·rw[if_pos hc]
   have:=hCl k hc
   split<;>grind
  ·rw[if_neg hc,if_neg fun h=>hc ((hFd k).1 h).1];exact abJ
 have hpt:∀ c∈d.cl,0≤(if Cf c.fr∧c.rk=f c.fr then d.w c*(z c.fr-h c.fr) else 0)-(if inC C c then d.q f z c-d.q f h c else 0):=by
  intro c hc;have hw:=hd.w_nonneg hc;have hfr:=hd.fr c hc;have hrk:=hd.rk c hc
  by_cases h1:Cf c.fr∧c.rk=f c.fr
  ·rw[if_pos h1]
   have h2:0≤d.w c*(z c.fr-h c.fr):=du hw (by have:=hCl _ ((hFd _).1 h1.1).1;grind)
   have h3:d.q f z c-d.q f h c≤d.w c*(z c.fr-h c.fr):=by
    unfold Day.q;rw[if_neg (by omega),if_pos h1.2,if_neg (by omega),if_pos h1.2]
    have h4:pos (z c.fr-d.U c.fr c.rk)-pos (h c.fr-d.U c.fr c.rk)≤z c.fr-h c.fr:=by
     have:=hCl _ ((hFd _).1 h1.1).1;unfold pos
     split<;>split<;>grind
    have:=kC hw h4;grind
   split<;>grind
  ·rw[if_neg h1]
   have h3:d.q f z c-d.q f h c≤0:=by
    unfold Day.q
    by_cases r1:c.rk<f c.fr
    ·rw[if_pos r1,if_pos r1];grind
    ·rw[if_neg r1,if_neg r1]
     by_cases r2:c.rk=f c.fr
     ·rw[if_pos r2,if_pos r2]
      have h4:z c.fr≤h c.fr:=by
       apply abM;intro hn;exact h1 ⟨(hFd _).2 ⟨(hCd _).2 ⟨hfr,by grind⟩,by omega⟩,r2⟩
      have:=kC hw (AY (show z c.fr-d.U c.fr c.rk≤h c.fr-d.U c.fr c.rk by grind));grind
     ·rw[if_neg r2,if_neg r2];grind
   split<;>grind
 have hnull:=rg hpt (by rw[nr,e2];grind)
 have hCC:∀ k,C k→f k<10:=by
  have:sumQ d.n (fun k=>(if C k then z k-h k else 0)-(if Cf k then z k-h k else 0))≤0:=by
   rw[nP];have:0≤sumC d.cl fun c=>(if Cf c.fr∧c.rk=f c.fr then d.w c*(z c.fr-h c.fr) else 0)-(if inC C c then d.q f z c-d.q f h c else 0):=dT hpt
   rw[nr,e2] at this;have h5:d.sumIn C (fun i=>z i-h i)=sumQ d.n fun k=>if C k then z k-h k else 0:=rfl
   grind
  have hn:=F9 (fun k hk=>by
   try dsimp only
   by_cases hc:C k
   ·rw[if_pos hc]
    have:=hCl k hc
    split<;>grind
   ·rw[if_neg hc,if_neg fun h=>hc ((hFd k).1 h).1];grind) this
  intro k hk;apply abM;intro h10;have:=hn k (hC k hk)
  try dsimp only at this
  rw[if_pos hk,if_neg fun h=>h10 ((hFd k).1 h).2] at this
  have:=hCl k hk;grind
 have hin:∀ c∈d.cl,C c.fr→c.rk=f c.fr→0<c.am→inC C c∧d.U c.fr c.rk≤h c.fr:=by
  intro c hc hcC hrk ham;have h0:=hnull c hc;have hw:=hd.w_pos hc ham;have hlt:=hCl _ hcC
  try dsimp only at h0
  rw[if_pos ⟨(hFd _).2 ⟨hcC,hCC _ hcC⟩,hrk⟩] at h0
  by_cases hin:inC C c
  ·refine⟨hin,?_⟩
   rw[if_pos hin] at h0;unfold Day.q at h0;rw[if_neg (by omega),if_pos hrk,if_neg (by omega),if_pos hrk] at h0;apply abM;intro hn;rw[ie (x:=h c.fr-d.U c.fr c.rk) (by grind)] at h0
   have h4:0<z c.fr-h c.fr-pos (z c.fr-d.U c.fr c.rk):=by
    unfold pos
    split<;>grind
   have:=abN hw h4;grind
  ·rw[if_neg hin] at h0
   have:0<d.w c*(z c.fr-h c.fr):=abN hw (by grind);grind
 have hU:∀ k,C k→d.U k (f k)≤h k:=by
  intro k hk;have hs:=hi.S_pos (hC k hk) (hCC k hk);obtain⟨c0,hc0,hp0⟩:=sS hs
  by_cases hh:c0.fr=k∧c0.rk=f k
  ·rw[if_pos hh] at hp0
   have:=(hin c0 hc0 (by rw[hh.1];exact hk) (by rw[hh.1];exact hh.2) hp0).2
   rwa [hh.1,hh.2] at this
  ·rw[if_neg hh] at hp0;exact absurd hp0 (by grind)
 have hfl:=hi.flow hd hne (fun i hc=>⟨hC i hc,hCC i hc⟩) (fun c hc hcC hrk ham=>(hin c hc hcC hrk ham).1) (d.q f h) (fun k=>h k-d.U k (f k)) (fun k _ hk=>by have:=hU k hk;grind) fun c hc _=>by
  by_cases hcC:C c.fr
  ·rw[l7 hcC]
   unfold Day.q
   by_cases r1:c.rk<f c.fr
   ·rw[if_pos r1,if_pos r1,if_neg (by omega)];grind
   ·rw[if_neg r1,if_neg r1]
    by_cases r2:c.rk=f c.fr
    ·rw[if_pos r2,if_pos ⟨hcC,r2⟩,r2,lA (by have:=hU _ hcC;grind)];grind
    ·rw[if_neg r2,if_neg fun h=>r2 h.2];grind
  ·rw[mi hcC,if_neg fun h=>hcC h.1]
   have:=hd.q_mono (f:=f) hc (hle _ (hd.fr c hc));grind
 have h6:d.sumIn C (d.into (d.q f h))=d.sumIn C h:=Day.sumIn_congr fun i hin _=>(hfix i hin).symm
 have h7:d.sumIn C (fun i=>d.U i (f i)+(h i-d.U i (f i)))=d.sumIn C h:=Day.sumIn_congr fun i _ _=>by grind
 rw[h6,h7] at hfl;exact absurd hfl (by grind)
theorem Inv.final {d:Day} (hd:d.OK) {f:Nat→Nat} {g h:Nat→Rat} (hi:Inv d f g) (hfix:∀ i,i<d.n→h i=d.into (d.q f h) i) (hle:∀ i,i<d.n→h i≤g i) (hno:∀ i,i<d.n→d.U i (f i)≤h i):(∀ i,i<d.n→h i=d.phi h i)∧∀ i,i<d.n→(f i<10↔h i<d.U i 10):=by
 constructor
 ·intro i hin
  rw[hfix i hin];unfold Day.phi;have:∀ j,j<d.n→h j=d.into (d.q f h) j:=hfix;refine d.into_congr (fun c hc=>?_) i;have hfr:=hd.fr c hc;have hrk:=hd.rk c hc;have h0:=hno _ hfr;unfold Day.q Day.pay
  by_cases r1:c.rk<f c.fr
  ·have:=hd.U_mono c.fr (r:=c.rk+1) (s:=f c.fr) (by omega)
   rw[if_pos r1,if_pos (by grind)]
  ·rw[if_neg r1]
   have h10:f c.fr<10:=by omega
   have h1:=hi.hi _ hfr h10;have h2:=hle _ hfr
   by_cases r2:c.rk=f c.fr
   ·rw[if_pos r2,if_neg (by rw[r2];grind)]
   ·have h3:=hd.U_mono c.fr (r:=f c.fr+1) (s:=c.rk) (by omega)
    have h4:=hd.U_mono c.fr (r:=c.rk) (s:=c.rk+1) (by omega);rw[if_neg r2,if_neg (by grind),ie (by grind),abK]
 ·intro i hin
  constructor
  ·intro h10
   have h1:=hi.hi _ hin h10;have h2:=hle _ hin;have h3:=hd.U_mono i (r:=f i+1) (s:=10) (by omega);grind
  ·intro h1
   apply abM;intro h2;have h3:=hi.le i;have h4:f i=10:=by omega
   have h5:=hno i hin;rw[h4] at h5;grind
end Go.Mini
namespace Go.Mini
open Classical
def IsTop (d:Day) (f:Nat→Nat) (h:Nat→Rat):Prop:=∃ g,Inv d f g∧(∀ i,i<d.n→h i=d.into (d.q f h) i)∧∀ i,i<d.n→h i≤g i
theorem IsTop.unique {d:Day} (hd:d.OK) {f:Nat→Nat} {h h':Nat→Rat} (a:IsTop d f h) (b:IsTop d f h'):∀ i,i<d.n→h i=h' i:=by
 obtain⟨g,h1,h2,h3⟩:=a;obtain⟨g',k1,k2,k3⟩:=b;intro i hin;have e1:=h1.above hd h2 h3 (z:=h') (fun i hi=>iy (k2 i hi)) i hin;have e2:=k1.above hd k2 k3 (z:=h) (fun i hi=>iy (h2 i hi)) i hin;grind
noncomputable def Day.fallRank (d:Day) (h:Nat→Rat) (i:Nat):Nat→Nat
 | 0=>10
 | k+1=>if h i<d.U i (10-(k+1)+1) then 10-(k+1) else Day.fallRank d h i k
theorem lw {d:Day} (hd:d.OK) {h:Nat→Rat} {i:Nat}:∀ k,k≤10→d.U i (10-k)≤h i→(d.fallRank h i k=10∧d.U i 10≤h i)∨(10-k≤d.fallRank h i k∧d.fallRank h i k<10∧d.U i (d.fallRank h i k)≤h i∧h i<d.U i (d.fallRank h i k+1))
 | 0,_,h0 => .inl ⟨rfl,h0⟩
 | k+1,hk,h0=>by
  unfold Day.fallRank
  by_cases h1:h i<d.U i (10-(k+1)+1)
  ·rw[if_pos h1];exact .inr ⟨abL _,by omega,h0,h1⟩
  ·rw[if_neg h1]
   rcases lw hd (h:=h) (i:=i) k (by omega) (by rw[show 10-k=10-(k+1)+1 by omega];grind) with e | ⟨e1,e2⟩
   ·exact .inl e
   ·exact .inr ⟨by omega,e2⟩
noncomputable def Day.fallen (d:Day) (f:Nat→Nat) (h:Nat→Rat) (i:Nat):Nat:=if i<d.n∧h i<d.U i (f i) then d.fallRank h i 10 else f i
theorem wW {d:Day} (hd:d.OK) {f:Nat→Nat} {h:Nat→Rat} (hle:∀ i,f i≤10) (h0:∀ i,i<d.n→0≤h i):Du d f h (d.fallen f h):=by
 have key:∀ i,i<d.n→h i<d.U i (f i)→d.fallRank h i 10<f i∧d.U i (d.fallRank h i 10)≤h i∧h i<d.U i (d.fallRank h i 10+1):=by
  intro i hin hF;have hm:=hd.U_mono i (hle i);rcases lw hd (h:=h) (i:=i) 10 (abL _) (by rw[abQ,d.U_zero];exact h0 i hin) with ⟨-,e⟩ | ⟨-,e1,e2,e3⟩
  ·grind
  ·refine⟨?_,e2,e3⟩
   apply abM;intro hn;have:=hd.U_mono i (r:=f i) (s:=d.fallRank h i 10) (by omega);grind
 refine⟨fun i=>?_,fun i hin hF=>?_,fun i hin hF=>?_⟩
 ·unfold Day.fallen
  split
  ·rename_i hh
   have:=(key i hh.1 hh.2).1;have:=hle i;omega
  ·exact hle i
 ·unfold Day.fallen
  rw[if_pos ⟨hin,hF⟩];exact key i hin hF
 ·unfold Day.fallen
  rw[if_neg fun hh=>by have:=hh.2;grind]
theorem IsTop.fall {d:Day} (hd:d.OK) {f:Nat→Nat} {h:Nat→Rat} (a:IsTop d f h):Inv d (d.fallen f h) h:=by
 obtain⟨g,h1,h2,h3⟩:=a;exact h1.fall hd h2 h3 (wW hd h1.le fun i hin=>by rw[h2 i hin];exact hd.into_nonneg (fun c hc=>hd.q_nonneg f h hc) hin)
theorem IsTop.nonneg {d:Day} (hd:d.OK) {f:Nat→Nat} {h:Nat→Rat} (a:IsTop d f h) {i:Nat} (hin:i<d.n):0≤h i:=by
 obtain⟨g,h1,h2,h3⟩:=a;rw[h2 i hin];exact hd.into_nonneg (fun c hc=>hd.q_nonneg f h hc) hin
noncomputable def Day.top (d:Day) (f:Nat→Nat):Nat→Rat:=if h:∃ x,IsTop d f x then abR h else fun _=>0
noncomputable def Day.falls (d:Day) (f:Nat→Nat):List Nat:=(abS d.n).filter fun i=>decide (d.top f i<d.U i (f i))
noncomputable def Day.rounds (d:Day):Nat→(Nat→Nat)→List (List Nat) × (Nat→Nat)
 | 0,f=>([],f)
 | k+1,f=>if d.falls f=[] then ([],f) else (d.falls f::(Day.rounds d k (d.fallen f (d.top f))).1,(Day.rounds d k (d.fallen f (d.top f))).2)
def Reach (d:Day) (f:Nat→Nat):Prop:=∃ g,Inv d f g∧∀ z,(∀ i,i<d.n→z i≤d.phi z i)→∀ i,i<d.n→z i≤g i
theorem Reach.start {d:Day} (hd:d.OK):Reach d fun _=>10:=⟨_,Inv.start hd,fun z hz i hin=>abO (hz i hin) (d.into_le (fun _ hc=>hd.pay_le z hc) i)⟩
def kq:Nat→(Nat→Nat)→Nat
 | 0,_=>0
 | n+1,f=>kq n f+f n
theorem Mk {n:Nat} {f g:Nat→Nat} (h:∀ i,i<n→f i≤g i):kq n f≤kq n g:=by
 induction n with
 | zero=>exact abL _
 | succ n ih =>
  have:=ih fun i hi=>h i (by omega)
  have:=h n (by omega);simp only[kq];omega
theorem xu {n:Nat} {f g:Nat→Nat} (h:∀ i,i<n→f i≤g i) {j:Nat} (hj:j<n) (hlt:f j<g j):kq n f<kq n g:=by
 induction n with
 | zero=>omega
 | succ n ih =>
  have h1:=h n (by omega);simp only[kq]
  by_cases hjn:j=n
  ·subst hjn
   have:=Mk (n:=j) (f:=f) (g:=g) fun i hi=>h i (by omega)
   omega
  ·have:=ih (fun i hi=>h i (by omega)) (by omega)
   omega
theorem Day.top_spec {d:Day} {f:Nat→Nat} (h:∃ x,IsTop d f x):IsTop d f (d.top f):=by
 unfold Day.top;rw[dif_pos h];exact abT h
theorem Day.mem_falls {d:Day} {f:Nat→Nat} {i:Nat}:i∈d.falls f↔i<d.n∧d.top f i<d.U i (f i):=by
 unfold Day.falls;rw[abU,abV,decide_eq_true_eq]
section
variable {d:Day} (hd:d.OK) (hex:∀ f,Reach d f→∃ h,IsTop d f h)
include hd hex
theorem vV {f:Nat→Nat} (hr:Reach d f) {z:Nat→Rat} (hz:∀ i,i<d.n→z i≤d.phi z i):∀ i,i<d.n→z i≤d.top f i:=by
 obtain⟨g,h1,h2,h3⟩:=Day.top_spec (hex f hr);obtain⟨g',k1,k2⟩:=hr;have ht:IsTop d f (d.top f):=⟨g,h1,h2,h3⟩
 -- the end of the round below g'
 intro i hin;have hz':=fun k hk=>abO (hz k hk) (d.into_le (fun _ hc=>HN hd k1 (k2 z hz) hc) k)
 exact h1.above hd h2 h3 hz' i hin
theorem Reach.next {f:Nat→Nat} (hr:Reach d f):Reach d (d.fallen f (d.top f)):=⟨d.top f,(Day.top_spec (hex f hr)).fall hd,fun z hz=>vV hd hex hr hz⟩
theorem rS {f:Nat→Nat} (hr:Reach d f) (hne:d.falls f≠[]):kq d.n (d.fallen f (d.top f))<kq d.n f:=by
 obtain⟨i,hi⟩:=List.exists_mem_of_ne_nil _ hne;obtain⟨h1,h2⟩:=Day.mem_falls.1 hi;have ht:=Day.top_spec (hex f hr);obtain⟨g,k1,-⟩:=ht;have hf:=wW hd k1.le (h:=d.top f) fun i hin=>(Day.top_spec (hex f hr)).nonneg hd hin
 refine xu (fun j hj=>?_) h1 (hf.2.1 i h1 h2).1
 by_cases hF:d.top f j<d.U j (f j)
 ·have:=(hf.2.1 j hj hF).1;omega
 ·rw[hf.2.2 j hj (by grind)];exact abL _
theorem uD:∀ k (f:Nat→Nat),Reach d f→kq d.n f≤k→Reach d (d.rounds k f).2∧d.falls (d.rounds k f).2=[]
 | 0,f,hr,hk=>by
  refine⟨hr,?_⟩;apply abM;intro hne;have:=rS hd hex hr hne;omega
 | k+1,f,hr,hk=>by
  unfold Day.rounds
  by_cases hne:d.falls f=[]
  ·rw[if_pos hne];exact⟨hr,hne⟩
  ·rw[if_neg hne]
   have:=rS hd hex hr hne;exact uD k _ (hr.next hd hex) (by omega)
end
theorem Day.rounds_stop (d:Day) {f:Nat→Nat} (h:d.falls f=[]):∀ k,d.rounds k f=([],f)
 | 0=>rfl
 | k+1=>by unfold Day.rounds;rw[if_pos h]
end Go.Mini
namespace Go.Mini
abbrev ClR:=Int × Int × Int × Int
def eX (n:Int) (c:ClR):Bool:=decide (0≤c.1)&&decide (c.1<n)&&decide (-1≤c.2.1)&&decide (c.2.1<n)&&decide (0≤c.2.2.1)&&decide (c.2.2.1<10)&&decide (0≤c.2.2.2)&&decide (c.2.2.2≤1000000000000000)
def cS (cash:List Int) (cs:List ClR):Bool:=decide (cash.length≤60)&&decide (cs.length≤2000)&&cash.all (fun x=>decide (0≤x)&&decide (x≤1000000000000000))&&cs.all (eX cash.length)
def bE (c:ClR):Cl:=⟨c.1.toNat,c.2.1,c.2.2.1.toNat,(c.2.2.2:Rat)⟩
def ac (cash:List Int) (cs:List ClR):Day:=⟨cash.length,fun i=>((cash.getD i 0:Int):Rat),cs.map bE⟩
theorem rightD_iff {cash:List Int} {cs:List ClR}:cS cash cs=true↔cash.length≤60∧cs.length≤2000∧(∀ x∈cash,0≤x∧x≤1000000000000000)∧∀ c∈cs,0≤c.1∧c.1<cash.length ∧ -1≤c.2.1∧c.2.1<cash.length∧0≤c.2.2.1∧c.2.2.1<10∧0≤c.2.2.2∧c.2.2.2≤1000000000000000:=by
 unfold cS eX;simp only[abW,decide_eq_true_eq,List.all_eq_true,and_assoc]
theorem mn {cash:List Int} {cs:List ClR} (h:cS cash cs=true):(ac cash cs).OK:=by
 obtain⟨-,-,h3,h4⟩:=rightD_iff.1 h
 have hc:∀ x∈(ac cash cs).cl,∃ c∈cs,x=bE c:=fun x hx=>by
  obtain⟨c,hc,rfl⟩:=List.mem_map.1 hx;exact⟨c,hc,rfl⟩
 refine⟨fun x hx=>?_,fun x hx=>?_,fun x hx=>?_,fun x hx=>?_,fun i hi=>?_⟩
 ·obtain⟨c,hc,rfl⟩:=hc x hx
  have:=h4 c hc
  show c.1.toNat<cash.length;omega
 ·obtain⟨c,hc,rfl⟩:=hc x hx
  have:=h4 c hc
  show c.2.1<(cash.length:Int);omega
 ·obtain⟨c,hc,rfl⟩:=hc x hx
  have:=h4 c hc
  show c.2.2.1.toNat<10;omega
 ·obtain⟨c,hc,rfl⟩:=hc x hx
  have:=(h4 c hc).2.2.2.2.2.2.1
  show (0:Rat)≤(c.2.2.2:Rat)
  exact_mod_cast this
 ·show (0:Rat)≤((cash.getD i 0:Int):Rat)
  have hi':i<cash.length:=hi
  have:0≤cash.getD i 0:=by
   rw[abX,abY hi'];exact (h3 _ (abZ hi')).1
  exact_mod_cast this
def bq:List ClR→(ClR→Int)→Int
 | [],_=>0
 | c::l,F=>F c+bq l F
def aO (cs:List ClR) (who r:Int):Int:=bq cs fun c=>if c.1=who∧c.2.2.1<r then c.2.2.2 else 0
theorem oB (cs:List ClR) (F:ClR→Int) (G:Cl→Rat) (h:∀ c∈cs,((F c:Int):Rat)=G (bE c)):((bq cs F:Int):Rat)=sumC (cs.map bE) G:=by
 induction cs with
 | nil=>rfl
 | cons c l ih=>rw[bq,ab0,sumC,ab1,h c ab2,ih fun x hx=>h x (ab3 _ hx)]
theorem js {cs:List ClR} {F G:ClR→Int} (h:∀ c∈cs,F c=G c):bq cs F=bq cs G:=by
 induction cs with
 | nil=>rfl
 | cons c l ih=>rw[bq,bq,h c ab2,ih fun x hx=>h x (ab3 _ hx)]
theorem sH {cs:List ClR} {F:ClR→Int} {B:Int} (hB:0≤B) (h:∀ c∈cs,0≤F c∧F c≤B):0≤bq cs F∧bq cs F≤cs.length*B:=by
 induction cs with
 | nil=>simp [bq]
 | cons c l ih =>
  have h1:=h c ab2;have h2:=ih fun x hx=>h x (ab3 _ hx)
  simp only[bq,ab4]
  have:((l.length+1:Nat):Int)*B=l.length*B+B:=by
   rw[Int.natCast_add,Int.add_mul];simp
  omega
theorem jJ (a b:List ClR) (F:ClR→Int):bq (a++b) F=bq a F+bq b F:=by
 induction a with
 | nil=>simp [bq]
 | cons c l ih=>simp only[ab5,bq,ih];omega
theorem dU {cash:List Int} {cs:List ClR} (h:cS cash cs=true) (i r:Nat):((aO cs i r:Int):Rat)=(ac cash cs).U i r:=by
 refine oB cs _ (fun c=>if c.fr=i∧c.rk<r then c.am else 0) fun c hc=>?_
 have:=(rightD_iff.1 h).2.2.2 c hc
 show ((if c.1=(i:Int)∧c.2.2.1<(r:Int) then c.2.2.2 else 0:Int):Rat)=if c.1.toNat=i∧c.2.2.1.toNat<r then (c.2.2.2:Rat) else 0
 by_cases h1:c.1=(i:Int)∧c.2.2.1<(r:Int)
 ·rw[if_pos h1,if_pos (by omega)]
 ·rw[if_neg h1,if_neg (by omega)];rfl
theorem yI {cash:List Int} {cs:List ClR} (h:cS cash cs=true) (i r:Nat):((aO cs i (r+1:Nat)-aO cs i r:Int):Rat)=(ac cash cs).S i r:=by
 have h1:=dU h i r;have h2:=dU h i (r+1);rw[ab6,h1,h2,Day.U_succ];grind
def cY (cash:List Int) (cs:List ClR) (f:Nat→Nat) (i:Nat):Int:=cash.getD i 0+bq cs fun c=>if c.2.1=(i:Int)∧c.2.2.1<(f c.1.toNat:Int) then c.2.2.2 else 0
def ext (N:Nat) (y:Nat→Rat) (z:Rat):Nat→Rat:=fun k=>if k<N then y k else z
theorem p8 (N:Nat) (a y:Nat→Rat) (z:Rat):kA N a (ext N y z)=sumQ N (fun k=>a k*y k)+a N*z:=by
 unfold kA ext;rw[sumQ]
 congr 1
 ·exact bR fun k hk=>by rw[if_pos hk]
 ·rw[if_neg (by omega)]
theorem ye {N:Nat} {Q:Mat} {pv:Nat→Nat} (h:Red N Q N N pv) (hpv:∀ j,j<N→pv j=j) {i:Nat} (hi:i<N) (y:Nat→Rat) (z:Rat):kA N (Q i) (ext N y z)=y i+Q i N*z:=by
 rw[p8]
 congr 1
 have:∀ k,k<N→Q i k=if i=k then 1 else 0:=fun k hk=>by
  have:=h.unit k hk i hi
  rwa [hpv k hk] at this
 rw[iW hi fun k hk hki=>by rw[this k hk,if_neg (Ne.symm hki),abP],this i hi,if_pos rfl,ab7]
theorem qP {N:Nat} {Q:Mat} {pv:Nat→Nat} (h:Red N Q N N pv) (hpv:∀ j,j<N→pv j=j) (y:Nat→Rat):Ann N Q (ext N y (-1))↔∀ i,i<N→y i=Q i N:=by
 unfold Ann
 constructor
 ·intro hA i hi
  have:=hA i hi;rw[ye h hpv hi] at this;grind
 ·intro hA i hi
  rw[ye h hpv hi,hA i hi];grind
theorem Bd {N:Nat} {Q:Mat} {pv:Nat→Nat} (h:Red N Q N N pv) (hpv:∀ j,j<N→pv j=j) (y:Nat→Rat) (hA:Ann N Q (ext N y 0)):∀ i,i<N→y i=0:=by
 intro i hi;have:=hA i hi;rw[ye h hpv hi] at this;grind
def qU (Q:Mat) (c:Nat):Nat→Rat:=fun k=>if k<c then 0-Q k c else if k=c then 1 else 0
theorem ux {N c:Nat} {Q:Mat} {pv:Nat→Nat} (h:Red N Q c c pv) (hpv:∀ j,j<c→pv j=j) (hc:c<N) (hz:∀ i,c≤i→i<N→Q i c=0):Ann N Q (ext N (qU Q c) 0):=by
 intro i hi;rw[p8]
 have main:∀ n,c<n→n≤N→sumQ n (fun k=>Q i k*qU Q c k)=sumQ (c+1) (fun k=>Q i k*qU Q c k):=by
  intro n
  induction n with
  | zero=>intro h;omega
  | succ n ih =>
   intro h1 h2
   by_cases hcn:c=n
   ·rw[hcn]
   ·rw[sumQ,ih (by omega) (by omega)]
    unfold qU;rw[if_neg (show ¬ n<c by omega),if_neg (show ¬ n=c by omega)];grind
 rw[main N hc (abL _),sumQ];have hk:qU Q c c=1:=by unfold qU;rw[if_neg (by omega),if_pos rfl]
 rw[hk]
 have hu:∀ k,k<c→Q i k=if i=k then 1 else 0:=fun k hk=>by
  have:=h.unit k hk i hi
  rwa [hpv k hk] at this
 rcases ab8 i c with hlt | hge
 ·rw[iW hlt fun k hk hki=>by rw[hu k hk,if_neg (Ne.symm hki),abP],hu i hlt,if_pos rfl]
  unfold qU;rw[if_pos hlt];grind
 ·rw[gE fun k hk=>by rw[hu k hk,if_neg (by omega),abP],hz i hge hi]
  grind
abbrev Col:=Nat→Rat
def lap (n:Nat) (f:List Col→Rat):List Col→List Col→Rat
 | _,[]=>0
 | pre,c::cs=>c n*f (pre++cs)-lap n f (pre++[c]) cs
def eD:Nat→List Col→Rat
 | 0,[]=>1
 | 0,_::_=>0
 | n+1,cs=>lap n (eD n) [] cs
def A9 (x y:Col) (a:Rat):Col:=fun i=>x i+a*y i
def No (f:List Col→Rat):Prop:=∀ A B x y a,f (A++A9 x y a::B)=f (A++x::B)+a*f (A++y::B)
def NJ (f:List Col→Rat):Prop:=∀ A B z,f (A++z::z::B)=0
theorem ze {n:Nat} {f:List Col→Rat} (h:No f) (x y:Col) (a:Rat) (A:List Col):∀ cs A',lap n f (A++A9 x y a::A') cs=lap n f (A++x::A') cs+a*lap n f (A++y::A') cs:=by
 intro cs
 induction cs with
 | nil=>intro A';simp only[lap];grind
 | cons c cs ih =>
  intro A';have e:=ih (A'++[c]);simp only[lap,ab9,ab5] at e ⊢;rw[h A (A'++cs) x y a,e];grind
theorem L9 {n:Nat} {f:List Col→Rat} (h:No f) (x y:Col) (a:Rat) (B:List Col):∀ A pre,lap n f pre (A++A9 x y a::B)=lap n f pre (A++x::B)+a*lap n f pre (A++y::B):=by
 intro A
 induction A with
 | nil =>
  intro pre;have e:=ze (n:=n) h x y a pre B [];simp only[aca,lap];rw[e];simp only[A9];grind
 | cons c A ih =>
  intro pre;have e:=ih (pre++[c]);have e2:=h (pre++A) B x y a;simp only[ab9] at e2;simp only[ab5,lap];rw[e,e2];grind
theorem mB:∀ n,No (eD n)
 | 0=>by
  intro A B x y a
  cases A<;>simp only[aca,ab5,eD]<;>grind
 | n+1=>fun A B x y a=>L9 (mB n) x y a B A []
theorem BL {n:Nat} {f:List Col→Rat} (h:NJ f) (z:Col) (A:List Col):∀ cs A',lap n f (A++z::z::A') cs=0:=by
 intro cs
 induction cs with
 | nil=>intro A';rfl
 | cons c cs ih =>
  intro A';have e:=ih (A'++[c]);have e2:=h A (A'++cs) z;simp only[lap,ab9,ab5] at e e2 ⊢;rw[e,e2];grind
theorem KP {n:Nat} {f:List Col→Rat} (h:NJ f) (z:Col) (B:List Col):∀ A pre,lap n f pre (A++z::z::B)=0:=by
 intro A
 induction A with
 | nil =>
  intro pre;have e:=BL (n:=n) h z pre B [];simp only[aca,lap,ab9,ab5] at e ⊢;rw[e];grind
 | cons c A ih =>
  intro pre;have e:=ih (pre++[c]);have e2:=h (pre++A) B z;simp only[ab9] at e2;simp only[ab5,lap];rw[e,e2];grind
theorem pN:∀ n,NJ (eD n)
 | 0=>by
  intro A B z
  cases A<;>rfl
 | n+1=>fun A B z=>KP (pN n) z B A []
theorem Jz (n:Nat) (A B:List Col) (x y:Col):eD n (A++x::y::B) = -eD n (A++y::x::B):=by
 have h0:=pN n A B (A9 x y 1);have h1:=mB n A (A9 x y 1::B) x y 1;rw[h0] at h1;have h2:=mB n (A++[x]) B x y 1;have h3:=mB n (A++[y]) B x y 1;simp only[ab9,ab5,aca] at h2 h3;rw[h2,h3,pN n A B x,pN n A B y] at h1;grind
theorem Ef (n:Nat) (C:List Col) (z:Col):∀ B A,eD n (A++z::(B++z::C))=0:=by
 intro B
 induction B with
 | nil=>intro A;exact pN n A C z
 | cons b B ih =>
  intro A;have:=ih (A++[b]);simp only[ab9,ab5,aca] at this ⊢;rw[Jz,this];grind
theorem u6 {n:Nat} {A B:List Col} {z:Col} (h:z∈A++B):eD n (A++z::B)=0:=by
 rcases List.mem_append.1 h with h | h
 ·obtain⟨A1,A2,rfl⟩:=acb h
  have:=Ef n B z A2 A1
  simpa only [ab9,ab5] using this
 ·obtain⟨B1,B2,rfl⟩:=acb h
  exact Ef n B2 z B1 A
theorem HF {n:Nat} {f:List Col→Rat} {z:Col} (hz:z n=0) (h:∀ A B,f (A++z::B)=0):(∀ cs A A',lap n f (A++z::A') cs=0)∧∀ A B pre,lap n f pre (A++z::B)=0:=by
 have h1:∀ cs A A',lap n f (A++z::A') cs=0:=by
  intro cs
  induction cs with
  | nil=>intro A A';rfl
  | cons c cs ih =>
   intro A A';have e:=ih A (A'++[c]);have e2:=h A (A'++cs);simp only[lap,ab9,ab5] at e e2 ⊢;rw[e,e2];grind
 refine⟨h1,fun A=>?_⟩
 induction A with
 | nil =>
  intro B pre;have e:=h1 B pre [];simp only[aca,lap];rw[e,hz];grind
 | cons c A ih =>
  intro B pre;have e:=ih B (pre++[c]);have e2:=h (pre++A) B;simp only[ab9] at e2;simp only[ab5,lap];rw[e,e2];grind
theorem ue:∀ n (z:Col),(∀ i,i<n→z i=0)→∀ A B,eD n (A++z::B)=0
 | 0,z,_=>fun A B=>by cases A<;>rfl
 | n+1,z,h=>fun A B=>(HF (h n (by omega)) (ue n z fun i hi=>h i (by omega))).2 A B []
theorem Aj {n:Nat} {e:Col} (h:∀ i,i<n→e i=0) (cs:List Col):eD (n+1) (e::cs)=e n*eD n cs:=by
 show e n*eD n ([]++cs)-lap n (eD n) ([]++[e]) cs=_
 have:∀ cs pre,lap n (eD n) (e::pre) cs=0:=by
  intro cs
  induction cs with
  | nil=>intro pre;rfl
  | cons c cs ih =>
   intro pre;have e1:=ih (pre++[c]);have e2:=ue n e h [] (pre++cs);simp only[lap,ab5,aca] at e1 e2 ⊢;rw[e1,e2];grind
 simp only[aca];rw[this cs []];grind
theorem Kx {n:Nat} {f:List Col→Rat} {T:Col→Col} (hT:∀ c,T c n=c n) (h:∀ l,f (l.map T)=f l):∀ cs pre,lap n f (pre.map T) (cs.map T)=lap n f pre cs:=by
 intro cs
 induction cs with
 | nil=>intro pre;rfl
 | cons c cs ih =>
  intro pre;have e:=ih (pre++[c]);have e2:=h (pre++cs);simp only[acd,ab0,ace] at e e2;simp only[ab0,lap];rw[e,e2,hT]
theorem xx:∀ n (T:Col→Col),(∀ c i,i<n→T c i=c i)→∀ l,eD n (l.map T)=eD n l
 | 0,T,_=>fun l=>by cases l<;>rfl
 | n+1,T,h=>fun l=>Kx (fun c=>h c n (by omega)) (xx n T fun c i hi=>h c i (by omega)) l []
theorem wl {n:Nat} {α:Type} (l:List α) (f g:α→Col) (h:∀ a∈l,∀ i,i<n→f a i=g a i):eD n (l.map f)=eD n (l.map g):=by
 rw[←xx n (fun c i=>if i<n then c i else 0) (fun c i hi=>if_pos hi),←xx n (fun c i=>if i<n then c i else 0) (fun c i hi=>if_pos hi) (l.map g)];rw[acf,acf]
 congr 1
 apply List.map_congr_left;intro a ha
 funext i
 simp only[Function.comp]
 split
 ·exact h a ha i (by assumption)
 ·rfl
theorem oc (n:Nat) (A B:List Col) (x:Nat→Rat) (C:Nat→Col):∀ m,eD n (A++(fun i=>sumQ m fun l=>x l*C l i)::B)=sumQ m fun l=>x l*eD n (A++C l::B)
 | 0=>ue n _ (fun i _=>rfl) A B
 | m+1=>by
  have e:=mB n A B (fun i=>sumQ m fun l=>x l*C l i) (C m) (x m);rw[oc n A B x C m] at e;exact e
def IZ (B:Nat) (x:Rat):Prop:=∃ z:Int,x=(z:Rat)∧z.natAbs≤B
theorem IZ.mono {A B:Nat} {x:Rat} (h:IZ A x) (hl:A≤B):IZ B x:=by obtain⟨z,h1,h2⟩:=h;exact⟨z,h1,by omega⟩
theorem IZ.mul {A B:Nat} {x y:Rat} (hx:IZ A x) (hy:IZ B y):IZ (A*B) (x*y):=by
 obtain⟨z,rfl,h2⟩:=hx;obtain⟨w,rfl,g2⟩:=hy;exact⟨z*w,by rw[acg],by rw[ach];exact aci h2 g2⟩
theorem IZ.sub {A B:Nat} {x y:Rat} (hx:IZ A x) (hy:IZ B y):IZ (A+B) (x-y):=by
 obtain⟨z,rfl,h2⟩:=hx;obtain⟨w,rfl,g2⟩:=hy;exact⟨z-w,by rw[ab6],by omega⟩
theorem IZ.add {A B:Nat} {x y:Rat} (hx:IZ A x) (hy:IZ B y):IZ (A+B) (x+y):=by
 obtain⟨z,rfl,h2⟩:=hx;obtain⟨w,rfl,g2⟩:=hy;exact⟨z+w,by rw[ab1],by omega⟩
theorem IZ.zero {B:Nat}:IZ B 0:=⟨0,by rfl,by simp⟩
theorem IZ.int (z:Int):IZ z.natAbs (z:Rat):=⟨z,rfl,abL _⟩
theorem IZ.sum {B:Nat} {f:Nat→Rat}:∀ n,(∀ k,k<n→IZ B (f k))→IZ (n*B) (sumQ n f)
 | 0,_=>IZ.zero
 | n+1,h=>by
  have:=(IZ.sum n fun k hk=>h k (by omega)).add (h n (by omega));exact this.mono (by rw[acj];exact abL _)
def jz:List (Col × Nat)→Nat
 | []=>1
 | p::l=>p.2*jz l
theorem yk (a b:List (Col × Nat)):jz (a++b)=jz a*jz b:=by
 induction a with
 | nil=>simp [jz]
 | cons p l ih=>simp only[ab5,jz,ih,ack]
theorem Hx {n M:Nat} {f:List Col→Rat} (h:∀ l:List (Col × Nat),(∀ p∈l,∀ i,i<n+1→IZ p.2 (p.1 i))→l.length≤M→IZ (M^n*jz l) (f (l.map (·.1)))) :
  ∀ cs pre:List (Col × Nat),(∀ p∈pre++cs,∀ i,i<n+1→IZ p.2 (p.1 i))→pre.length+cs.length≤M+1→IZ (cs.length*(M^n*jz (pre++cs))) (lap n f (pre.map (·.1)) (cs.map (·.1)))
 | [],pre,_,_=>IZ.zero
 | c::cs,pre,hp,hl=>by
  have e:=Hx h cs (pre++[c]) (by simpa using hp) (by simp at hl ⊢;omega);have e2:=h (pre++cs) (fun p hm=>hp p (by simp only[acl,acm] at hm ⊢;rcases hm with hm | hm<;>simp [hm])) (by simp at hl ⊢;omega);have e3:=(hp c (by simp) n (by omega)).mul e2;simp only[acd,ab0,ace] at e e2 e3;simp only[ab0,lap];refine (e3.sub e).mono ?_;simp only[yk,jz,ab4,ab9,ab5,aca,acj]
  have:c.2*(M^n*(jz pre*jz cs))=M^n*(jz pre*(c.2*jz cs)):=by
   rw[acn,acn c.2]
  rw[this];omega
theorem HH (M:Nat):∀ n (l:List (Col × Nat)),(∀ p∈l,∀ i,i<n→IZ p.2 (p.1 i))→l.length≤M→IZ (M^n*jz l) (eD n (l.map (·.1)))
 | 0,[],_,_=>⟨1,by rfl,by simp [jz]⟩
 | 0,p::l,_,_=>IZ.zero
 | n+1,l,h,hl=>by
  have:=Hx (M:=M) (f:=eD n) (fun l' h' hl'=>HH M n l' (fun p hp i hi=>h' p hp i (by omega)) hl') l [] (by simpa using h) (by simp;omega);refine IZ.mono this ?_;rw[aca,aco,acp (M^n) M,ack];exact acq _ hl
open Go
set_option maxRecDepth 10000
set_option maxHeartbeats 1000000
def EncV (N:Nat) (l:List aF) (q:Nat→Rat):Prop:=l=((abS (N+1)).map q).map aj∧∀ k,k≤N→cg (q k)
def EncM (N:Nat) (rows:List MR) (Q:Mat):Prop:=rows.length=N∧∀ (i:Nat) x,rows[i]?=some x→EncV N x.2.2 (Q i)
theorem EncV.get {N:Nat} {l:List aF} {q:Nat→Rat} (h:EncV N l q) {k:Nat} (hk:k≤N):l[k]?=some (aj (q k)):=by
 rw[h.1,acr,acr,acs (by omega)]
 rfl
theorem EncV.len {N:Nat} {l:List aF} {q:Nat→Rat} (h:EncV N l q):l.length=N+1:=by rw[h.1];simp
theorem EncV.of_get {N:Nat} {l:List aF} {q:Nat→Rat} (hl:l.length=N+1) (h:∀ k,k≤N→l[k]?=some (aj (q k))∧cg (q k)):EncV N l q:=by
 refine⟨?_,fun k hk=>(h k hk).2⟩
 apply act;intro k;rcases ab8 k (N+1) with hk | hk
 ·rw[(h k (by omega)).1,acr,acr,acs hk];rfl
 ·rw[acu (by omega),acu (by simp;omega)]
theorem EncV.congr {N:Nat} {l:List aF} {q q':Nat→Rat} (h:EncV N l q) (hq:∀ k,k≤N→q k=q' k):EncV N l q' :=
 EncV.of_get h.len fun k hk=>by rw[←hq k hk];exact⟨h.get hk,h.2 k hk⟩
theorem EncV.cell {N:Nat} {x:MR} {q:Nat→Rat} (h:EncV N x.2.2 q) {k:Nat} (hk:k≤N):cG x k=aj (q k):=tu (h.get hk)
theorem ow (q:Rat):gY (aj q)=decide (q=0):=by
 unfold gY aj aR;rw[Bool.eq_iff_iff,beq_iff_eq,decide_eq_true_eq,Int.sign_eq_zero_iff_zero,Rat.num_eq_zero]
def iu (fac a b:Rat):Bool:=pL fac b&&gP a (-(fac*b))
theorem DY {fac a b:Rat} (hf:cg fac) (ha:cg a) (hb:cg b) (h:iu fac a b=true) :
  lZ (aj fac) (aj b)=(aj (fac*b),0)∧nm (aj a) (aj (fac*b))=(aj (a-fac*b),0)∧cg (a-fac*b):=by
 unfold iu at h;rw[abW] at h;refine⟨?_,?_,Ep h.2⟩
 ·rw[ul hf hb,h.1];rfl
 ·rw[qw ha (EE h.1),h.2];rfl
theorem HQ {fac a b:Rat} (hf:cg fac) (ha:cg a) (hb:cg b) (h:iu fac a b=false) :
  ((lZ (aj fac) (aj b)).2 != 0||(nm (aj a) (lZ (aj fac) (aj b)).1).2 != 0)=true:=by
 unfold iu at h;rw[ul hf hb];rcases h1:pL fac b
 ·rfl
 ·rw[h1,Bool.true_and] at h
  show ((nm (aj a) (aj (fac*b))).2 != 0)=true;rw[qw ha (EE h1),h]
  rfl
theorem Dx {fac:Rat} (hf:cg fac):∀ (ql pl:List Rat),ql.length=pl.length→(∀ x∈ql,cg x)→(∀ x∈pl,cg x) →
  ((∀ q∈ql.zip pl,iu fac q.1 q.2=true)→cT (aj fac) (ql.map aj) (pl.map aj) false=((acv (fun a b=>a-fac*b) ql pl).map aj,false)∧∀ x∈acv (fun a b=>a-fac*b) ql pl,cg x) ∧
  ((cT (aj fac) (ql.map aj) (pl.map aj) false).2=false→∀ q∈ql.zip pl,iu fac q.1 q.2=true):=by
 intro ql
 induction ql with
 | nil=>intro pl hl _ _;cases pl with
  | nil=>exact⟨fun _=>⟨rfl,by simp⟩,fun _=>by simp⟩
  | cons=>cases hl
 | cons a ql ih =>
  intro pl hl h1 h2
  cases pl with
  | nil=>cases hl
  | cons b pl =>
   have ha:=h1 a ab2;have hb:=h2 b ab2;obtain⟨i1,i2⟩:=ih pl (by simpa using hl) (fun x hx=>h1 x (ab3 _ hx)) (fun x hx=>h2 x (ab3 _ hx))
   constructor
   ·intro hall
    obtain⟨e1,e2,e3⟩:=DY hf ha hb (hall (a,b) (by simp));obtain⟨i3,i4⟩:=i1 fun q hq=>hall q (by simp only[acw,acm];exact .inr hq)
    refine⟨?_,fun x hx=>?_⟩
    ·simp only[ab0,cT,e1,e2,acx,bne_self_eq_false,acy,i3]
    ·rw[acx,acm] at hx
     rcases hx with rfl | hx
     ·exact e3
     ·exact i4 x hx
   ·intro hb2
    simp only[ab0,cT] at hb2;rcases hs:iu fac a b
    ·rw[HQ hf ha hb hs,pn] at hb2
     cases hb2
    ·obtain⟨e1,e2,e3⟩:=DY hf ha hb hs
     simp only[e1,e2,bne_self_eq_false,acy] at hb2;intro q hq;rw[acw,acm] at hq;rcases hq with rfl | hq
     ·exact hs
     ·exact i2 hb2 q hq
theorem vH (n:Nat) (q p:Nat→Rat):((abS n).map q).zip ((abS n).map p)=(abS n).map fun k=>(q k,p k):=by
 rw[List.zip_map',]
theorem vA (n:Nat) (f:Rat→Rat→Rat) (q p:Nat→Rat):acv f ((abS n).map q) ((abS n).map p)=(abS n).map fun k=>f (q k) (p k):=by
 rw[List.zipWith_map,List.zipWith_self]
theorem Ia {N:Nat} {fac:Rat} {l l2:List aF} {q p:Nat→Rat} (hf:cg fac) (h1:EncV N l q) (h2:EncV N l2 p) :
  ((∀ k,k≤N→iu fac (q k) (p k)=true)→(cT (aj fac) l l2 false).2=false)∧((cT (aj fac) l l2 false).2=false→EncV N (cT (aj fac) l l2 false).1 (fun k=>q k-fac*p k)):=by
 obtain⟨e1,e2⟩:=Dx hf ((abS (N+1)).map q) ((abS (N+1)).map p) (by simp) (by
  intro x hx;obtain⟨k,hk,rfl⟩:=List.mem_map.1 hx;exact h1.2 k (by have:=List.mem_range.1 hk;omega)) (by
  intro x hx;obtain⟨k,hk,rfl⟩:=List.mem_map.1 hx;exact h2.2 k (by have:=List.mem_range.1 hk;omega))
 rw[←h1.1,←h2.1] at e1 e2
 have hz:(∀ k,k≤N→iu fac (q k) (p k)=true)↔∀ x∈((abS (N+1)).map q).zip ((abS (N+1)).map p),iu fac x.1 x.2=true:=by
  rw[vH];simp only[acz,abV]
  constructor
  ·rintro h x ⟨k,hk,rfl⟩;exact h k (by omega)
  ·intro h k hk;exact h (q k,p k) ⟨k,by omega,rfl⟩
 refine⟨fun h=>by rw[(e1 (hz.1 h)).1],fun h=>?_⟩
 obtain⟨e3,e4⟩:=e1 (e2 h);rw[e3,vA] at *;exact⟨rfl,fun k hk=>e4 _ (List.mem_map.2 ⟨k,List.mem_range.2 (by omega),rfl⟩)⟩
theorem ka (prow:List aF) (r c:Nat):∀ (i:Nat) (l:List MR),(bO prow r c i l true).2=true
 | _,[]=>rfl
 | i,x::xs=>by
  unfold bO
  split
  ·exact ka prow r c (i+1) xs
  ·rw[pn];exact ka prow r c (i+1) xs
theorem qq {N r c:Nat} {prow:List aF} {p:Nat→Rat} (hp:EncV N prow p) (hc:c≤N):∀ (i:Nat) (l:List MR) (D:Mat),(∀ (j:Nat) x,l[j]?=some x→EncV N x.2.2 (D (i+j))) →
  ((∀ j,j<l.length→i+j≠r→D (i+j) c≠0→∀ k,k≤N→iu (D (i+j) c) (D (i+j) k) (p k)=true)→(bO prow r c i l false).2=false) ∧
  ((bO prow r c i l false).2=false→∀ (j:Nat) x,(bO prow r c i l false).1[j]?=some x→EncV N x.2.2 (fun k=>if i+j=r then D (i+j) k else D (i+j) k-D (i+j) c*p k))
 | i,[],D,h=>⟨fun _=>rfl,fun _ j x hx=>by simp [bO] at hx⟩
 | i,x::xs,D,h=>by
  have h0:=h 0 x rfl;rw[acA] at h0
  obtain⟨ih1,ih2⟩:=qq hp hc (i+1) xs D fun j y hy=>by
   have:=h (j+1) y hy
   rwa [show i+(j+1)=i+1+j by omega] at this
  have hcell:=h0.cell hc
  have ihs:(∀ j,j<(x::xs).length→i+j≠r→D (i+j) c≠0→∀ k,k≤N→iu (D (i+j) c) (D (i+j) k) (p k)=true)→∀ j,j<xs.length→i+1+j≠r→D (i+1+j) c≠0→∀ k,k≤N→iu (D (i+1+j) c) (D (i+1+j) k) (p k)=true:=by
   intro hh j hj;have:=hh (j+1) (by simpa using hj)
   rwa [show i+(j+1)=i+1+j by omega] at this
  unfold bO;rw[hcell,ow]
  by_cases hz:(i==r||decide (D i c=0))=true
  ·rw[if_pos hz]
   refine⟨fun hh=>ih1 (ihs hh),fun hb j y hy=>?_⟩
   cases j with
   | zero =>
    simp only[acB,Option.some.injEq] at hy;subst hy;rw[acA];refine h0.congr fun k hk=>?_
    simp only[acC,beq_iff_eq,decide_eq_true_eq] at hz
    split
    ·rfl
    ·rcases hz with hz | hz
     ·contradiction
     ·rw[hz];grind
   | succ j =>
    have:=ih2 hb j y (by simpa using hy)
    rwa [show i+(j+1)=i+1+j by omega]
  ·rw[if_neg hz]
   simp only[acC,beq_iff_eq,decide_eq_true_eq,not_or] at hz;obtain⟨g1,g2⟩:=Ia (h0.2 c hc) h0 hp
   constructor
   ·intro hh
    have h3:=g1 (hh 0 (by simp) (by simpa using hz.1) (by simpa using hz.2));dsimp only;rw[h3];exact ih1 (ihs hh)
   ·intro hb j y hy
    dsimp only at hb hy;rcases hgb:(cT (aj (D i c)) x.2.2 prow false).2
    ·rw[hgb] at hb hy
     cases j with
     | zero =>
      simp only[acB,Option.some.injEq] at hy;subst hy;rw[acA];exact (g2 hgb).congr fun k hk=>by rw[if_neg hz.1]
     | succ j =>
      have:=ih2 hb j y (by simpa using hy)
      rwa [show i+(j+1)=i+1+j by omega]
    ·rw[hgb,ka] at hb
     cases hb
theorem Cm {N:Nat} {l:List aF} {q:Nat→Rat} {b:Rat} (h:EncV N l q) (hb:cg b) (h0:b≠0) :
  ((cw (aj b) l).2=false↔∀ k,k≤N→nG (q k) b=true)∧((cw (aj b) l).2=false→EncV N (cw (aj b) l).1 (fun k=>q k / b)):=by
 have e1:(cw (aj b) l).2=false↔∀ k,k≤N→nG (q k) b=true:=by
  unfold cw;rw[h.1];simp only[acD,acz,abV]
  constructor
  ·intro hh k hk
   have:=hh (aj (q k)) ⟨q k,⟨k,by omega,rfl⟩,rfl⟩
   rw[pY (h.2 k hk) hb h0] at this;rcases hd:nG (q k) b
   ·rw[hd] at this;exact absurd rfl this
   ·rfl
  ·rintro hh _ ⟨_,⟨k,hk,rfl⟩,rfl⟩
   rw[pY (h.2 k (by omega)) hb h0,hh k (by omega)];simp [pU]
 refine⟨e1,fun hh=>?_⟩
 have hok:=e1.1 hh;refine EncV.of_get (by unfold cw;rw[acE,h.len]) fun k hk=>⟨?_,Lp (hok k hk)⟩
 unfold cw;rw[acr,h.get hk,acF,pY (h.2 k hk) hb h0,hok k hk]
 rfl
theorem EncM.row {N:Nat} {rows:List MR} {Q:Mat} (h:EncM N rows Q) {i:Nat} (hi:i<N):∃ x,rows[i]?=some x∧fk rows i=x∧EncV N x.2.2 (Q i):=by
 obtain⟨x,hx⟩:∃ x,rows[i]?=some x:=⟨_,abY (by have:=h.1;omega)⟩;exact⟨x,hx,kR hx,h.2 i x hx⟩
theorem EncM.swap {N:Nat} {rows:List MR} {Q:Mat} (h:EncM N rows Q) {r s:Nat} (hr:r<N) (hs:s<N):EncM N (swapped rows r s) (c8 Q r s):=by
 obtain⟨x,hx,ex,vx⟩:=h.row hr;obtain⟨y,hy,ey,vy⟩:=h.row hs;unfold swapped;rw[ex,ey];refine⟨by rw[acG,acG];exact h.1,fun i z hz=>?_⟩
 rw[acH,acH,acG] at hz;unfold c8
 by_cases h1:s=i
 ·rw[if_pos h1,if_pos (by have:=h.1;omega)] at hz
  cases hz;rw[if_pos h1.symm];exact vx
 ·rw[if_neg h1] at hz
  rw[if_neg (Ne.symm h1)]
  by_cases h2:r=i
  ·rw[if_pos h2,if_pos (by have:=h.1;omega)] at hz
   cases hz;rw[if_pos h2.symm];exact vy
  ·rw[if_neg h2] at hz
   rw[if_neg (Ne.symm h2)];exact h.2 i z hz
def MW (N:Nat) (S:Mat) (r c:Nat):Prop:=(∀ k,k≤N→nG (S r k) (S r c)=true)∧∀ i,i<N→i≠r→S i c≠0→∀ k,k≤N→iu (S i c) (S i k) (S r k / S r c)=true
theorem yZ {N:Nat} {rows:List MR} {Q:Mat} (h:EncM N rows Q) {r c:Nat} (hr:r<N) (hc:c<N) :
  ((gR rows r c).1=true∧(gR rows r c).2.1=rows∧(gR rows r c).2.2=false∧∀ i,r≤i→i<N→Q i c=0) ∨
  ((gR rows r c).1=false∧∃ s,r≤s∧s<N∧Q s c≠0∧((gR rows r c).2.2=false→EncM N (gR rows r c).2.1 (mD Q r c s))∧(MW N (c8 Q r s) r c→(gR rows r c).2.2=false)):=by
 have hl:=h.1;have hfl:=vM rows r c (by omega)
 have hfz:∀ i x,r≤i→i<cr rows r c→rows[i]?=some x→gY (cG x c)=true:=by
  intro i x hi1 hi2 hx;unfold cr at hi2;have hlt:i-r<(rows.drop r).findIdx fun x => !gY (cG x c):=by omega
  have:=List.not_of_lt_findIdx hlt
  have hg:(rows.drop r)[i-r]'(Nat.lt_of_lt_of_le hlt List.findIdx_le_length)=x:=by
   rw[acI];have:=(List.getElem?_eq_some_iff.1 hx)
   obtain⟨h1,h2⟩:=this;simp only[show r+(i-r)=i by omega]
   exact h2
  rw[hg] at this
  simpa using this
 unfold gR
 by_cases hf:cr rows r c=rows.length
 ·left
  rw[if_pos hf];refine⟨rfl,rfl,rfl,fun i hi1 hi2=>?_⟩
  obtain⟨x,hx,-,vx⟩:=h.row hi2;have:=hfz i x hi1 (by omega) hx;rw[vx.cell (by omega),ow] at this
  simpa using this
 ·right
  rw[if_neg hf];refine⟨rfl,cr rows r c,hfl.1,by omega,?_,?_⟩
  ·obtain⟨x,hx,-,vx⟩:=h.row (i:=cr rows r c) (by omega)
   have hlt:cr rows r c-r<(rows.drop r).length:=by rw[acJ];omega
   have h2:(rows.drop r).findIdx (fun x => !gY (cG x c))<(rows.drop r).length:=by
    unfold cr at hlt;omega
   have h3:=acK (w:=h2)
   have hg:(rows.drop r)[(rows.drop r).findIdx fun x => !gY (cG x c)]=x:=by
    rw[acI];exact (List.getElem?_eq_some_iff.1 hx).2
   rw[hg,vx.cell (by omega),ow] at h3
   simpa using h3
  ·have hs:cr rows r c<N:=by omega
   have hsw:=h.swap hr hs
   have hne:c8 Q r (cr rows r c) r c≠0:=by
    rw[sN];obtain⟨x,hx,-,vx⟩:=h.row hs
    have h2:(rows.drop r).findIdx (fun x => !gY (cG x c))<(rows.drop r).length:=by
     rw[acJ];unfold cr at hs;omega
    have h3:=acK (w:=h2)
    have hg:(rows.drop r)[(rows.drop r).findIdx fun x => !gY (cG x c)]=x:=by
     rw[acI];exact (List.getElem?_eq_some_iff.1 hx).2
    rw[hg,vx.cell (by omega),ow] at h3
    simpa using h3
   have hpq:mD Q r c (cr rows r c)=fun i k=>if i=r then c8 Q r (cr rows r c) r k / c8 Q r (cr rows r c) r c else c8 Q r (cr rows r c) i k-c8 Q r (cr rows r c) i c*(c8 Q r (cr rows r c) r k / c8 Q r (cr rows r c) r c):=rfl
   rw[hpq];generalize swapped rows r (cr rows r c)=sw at *;generalize c8 Q r (cr rows r c)=S at *;obtain⟨x,hx,ex,vx⟩:=hsw.row hr;rw[ex,vx.cell (by omega)];obtain⟨d1,d2⟩:=Cm vx (vx.2 c (by omega)) hne
   have hdv:divided sw r c=sw.set r (x.1,x.2.1,(cw (aj (S r c)) x.2.2).1):=by
    unfold divided;rw[ex,vx.cell (by omega)]
   rw[hdv]
   have hrows:EncV N (cw (aj (S r c)) x.2.2).1 (fun k=>S r k / S r c)→∀ (j:Nat) y,(sw.set r (x.1,x.2.1,(cw (aj (S r c)) x.2.2).1))[j]?=some y→EncV N y.2.2 ((fun i=>if i=r then fun k=>S r k / S r c else S i) (0+j)):=by
    intro hd j y hy;rw[acL];rw[acH] at hy
    by_cases hj:r=j
    ·rw[if_pos hj,if_pos (by have:=hsw.1;omega)] at hy
     cases hy;dsimp only;rw[if_pos hj.symm];exact hd
    ·rw[if_neg hj] at hy
     dsimp only;rw[if_neg (Ne.symm hj)];exact hsw.2 j y hy
   dsimp only;rcases hdb:(cw (aj (S r c)) x.2.2).2
   ·have hd:=d2 hdb
    obtain⟨r1,r2⟩:=qq (r:=r) (c:=c) hd (by omega) 0 (sw.set r (x.1,x.2.1,(cw (aj (S r c)) x.2.2).1)) (fun i=>if i=r then fun k=>S r k / S r c else S i) (hrows hd)
    constructor
    ·intro hb
     refine⟨?_,fun i z hz=>?_⟩
     ·have:=congrArg List.length (iM (cw (aj (S r c)) x.2.2).1 r c 0 (sw.set r (x.1,x.2.1,(cw (aj (S r c)) x.2.2).1)) false)
      rw[acE,acE,acG] at this;rw[this];exact hsw.1
     ·have:=r2 hb i z hz
      rw[acL] at this;refine this.congr fun k hk=>?_
      by_cases hir:i=r
      ·simp only[if_pos hir]
      ·simp only[if_neg hir]
    ·intro hok
     refine r1 fun j hj hjr hne k hk=>?_
     rw[acL] at *;simp only[if_neg hjr] at hne ⊢;rw[acG,hsw.1] at hj;exact hok.2 j hj hjr hne k hk
   ·constructor
    ·intro hb
     rw[ka] at hb
     cases hb
    ·intro hok
     rw[d1.2 hok.1] at hdb
     cases hdb
structure Elim (N:Nat) (Q Q':Mat) (rows:List MR) (p c:Nat) (pv:Nat→Nat):Prop where
 enc:EncM N rows Q'
 red:Red N Q' p c pv
 ann:∀ y,Ann N Q' y↔Ann N Q y
theorem Dh (stop:Bool) (N:Nat) (Q0:Mat):∀ k c rows free Q p pv,c+k=N→Elim N Q0 Q rows p c pv→p+free.length=c→(stop=true→free=[]∧∀ j,j<p→pv j=j) →
  ∀ rows' free',f6 stop k c rows free false=(rows',free',false) →
  ∃ Q' p' c' pv',Elim N Q0 Q' rows' p' c' pv'∧(stop=false→c'=N∧p'+free'.length=N) ∧
   (stop=true→(free'=[]∧c'=N∧p'=N∧∀ j,j<N→pv' j=j)∨(∃ f,free'=[f]∧f<N∧p'=f∧c'=f∧(∀ j,j<f→pv' j=j)∧∀ i,f≤i→i<N→Q' i f=0)):=by
 intro k
 induction k with
 | zero =>
  intro c rows free Q p pv hc he hp hs rows' free' hx;simp only[f6,Prod.mk.injEq,and_true] at hx;obtain⟨rfl,rfl⟩:=hx;refine⟨Q,p,c,pv,he,fun _=>⟨by omega,by omega⟩,fun h=>?_⟩
  obtain⟨h1,h2⟩:=hs h;subst h1;simp only[acM,acA] at hp;exact .inl ⟨rfl,by omega,by omega,fun j hj=>h2 j (by omega)⟩
 | succ k ih =>
  intro c rows free Q p pv hc he hp hs rows' free' hx;have hcp:c-free.length=p:=by omega
  unfold f6 at hx;rw[hcp] at hx;rcases yZ he.enc (r:=p) (c:=c) (by omega) (by omega) with ⟨h1,h2,h3,h4⟩ | ⟨h1,s,hs1,hs2,hs3,h4,h5⟩
  ·rw[h1,h2,h3,if_pos rfl] at hx
   cases stop with
   | true =>
    rw[if_pos rfl] at hx;simp only[Prod.mk.injEq,and_true] at hx;obtain⟨rfl,rfl⟩:=hx;obtain⟨g1,g2⟩:=hs rfl;subst g1;simp only[acM,acA] at hp;subst hp;exact⟨Q,p,p,pv,he,by simp,fun _ => .inr ⟨p,rfl,by omega,rfl,rfl,g2,h4⟩⟩
   | false =>
    rw[if_neg (by simp)] at hx;exact ih (c+1) rows (free++[c]) Q p pv (by omega) ⟨he.enc,he.red.free h4,he.ann⟩ (by simp;omega) (by simp) rows' free' hx
  ·rw[h1,if_neg (by simp)] at hx
   rcases hb:(gR rows p c).2.2
   ·rw[hb] at hx
    have hen:=h4 hb;refine ih (c+1) _ free (mD Q p c s) (p+1) (fun j=>if j=p then c else pv j) (by omega) ⟨hen,he.red.piv (by omega) hs1 hs2 hs3,fun y=>(yu (by omega) hs2 hs3).trans (he.ann y)⟩ (by omega) (fun h=>?_) rows' free' hx
    obtain⟨g1,g2⟩:=hs h;refine⟨g1,fun j hj=>?_⟩
    subst g1;simp only[acM,acA] at hp
    show (if j=p then c else pv j)=j
    split
    ·omega
    ·exact g2 j (by omega)
   ·rw[hb,vW] at hx
    cases hx
def jW (rs:List cD):Mat:=fun i k=>if k<rs.length then ls ((rs.getD i ([],bV)).1.getD k bV) else ls (rs.getD i ([],bV)).2
theorem mF {f:aF} (h:bc f=true):f=aj (ls f)∧cg (ls f):=by
 obtain⟨x,hx,rfl⟩:=(kt _).1 h;rw[kE];exact⟨rfl,hx⟩
theorem BK {rs:List cD} {n:Int} (h:fv rs n=true):(rs.length:Int)=n∧rs.length≤40∧∀ r∈rs,r.1.length=rs.length∧bc r.2=true∧∀ f∈r.1,bc f=true:=by
 unfold fv at h;simp only[abW,acN,decide_eq_false_iff_not,beq_iff_eq] at h;obtain⟨h1,h2,h3,h4⟩:=h;refine⟨h3,by omega,fun r hr=>?_⟩
 rw[acD] at h4;have:=h4 r hr;unfold fJ C0 at this;simp only[acN,Bool.not_eq_true,Bool.not_eq_false',abW,beq_iff_eq,acD,Bool.not_eq_false] at this;obtain⟨q1,q2,q3⟩:=this;exact⟨by omega,q2,fun f hf=>by simpa using q3 f hf⟩
theorem y6 {rs:List cD} {i:Nat} {r:cD} (h:rs[i]?=some r):rs.getD i ([],bV)=r:=by
 rw[abX,h];rfl
theorem D4 {rs:List cD} {n:Int} (h:fv rs n=true):EncM rs.length (dk rs) (jW rs):=by
 obtain⟨hn,h40,hrows⟩:=BK h;refine⟨mz rs,fun i x hx=>?_⟩
 have hi:i<rs.length:=by
  have:=(List.getElem?_eq_some_iff.1 hx).1
  rwa [mz] at this
 obtain⟨r,hr⟩:∃ r,rs[i]?=some r:=⟨_,abY hi⟩;rw[EA hr] at hx
 cases hx;obtain⟨e1,e2,e3⟩:=hrows r (acO hr);refine EncV.of_get (by simp [e1]) fun k hk=>?_
 unfold jW;rw[y6 hr]
 by_cases hk2:k<rs.length
 ·rw[if_pos hk2]
  obtain⟨f,hf⟩:∃ f,r.1[k]?=some f:=⟨_,abY (by omega)⟩;obtain⟨q1,q2⟩:=mF (e3 f (acO hf));rw[acP (by omega),hf,abX,hf];exact⟨congrArg some q1,q2⟩
 ·rw[if_neg hk2]
  obtain⟨q1,q2⟩:=mF e2;rw[acQ (by omega),e1,show k-rs.length=0 by omega]
  exact⟨congrArg some q1,q2⟩
theorem Dy (stop:Bool) {rs:List cD} {n:Int} (h:fv rs n=true) {rows':List MR} {free':List Nat} (hx:jS stop rs=(rows',free',false)) :
  ∃ Q' p' c' pv',Elim rs.length (jW rs) Q' rows' p' c' pv'∧(stop=false→c'=rs.length∧p'+free'.length=rs.length) ∧
   (stop=true→(free'=[]∧c'=rs.length∧p'=rs.length∧∀ j,j<rs.length→pv' j=j)∨(∃ f,free'=[f]∧f<rs.length∧p'=f∧c'=f∧(∀ j,j<f→pv' j=j)∧∀ i,f≤i→i<rs.length→Q' i f=0)) :=
 Dh stop rs.length (jW rs) rs.length 0 (dk rs) [] (jW rs) 0 (fun j=>j) (by omega) ⟨D4 h,oI _ _ _,fun _=>Iff.rfl⟩ rfl (fun _=>⟨rfl,fun j hj=>by omega⟩) rows' free' hx
def CD (N:Nat) (q:Nat→Rat) (b:Nat):Prop:=∃ (v:Nat→Int) (d:Int),d≠0∧d.natAbs≤2^b∧∀ k,k≤N→q k*(d:Rat)=(v k:Rat)∧(v k).natAbs≤2^b
theorem CD.mono {N a b:Nat} {q:Nat→Rat} (h:CD N q a) (hab:a≤b):CD N q b:=by
 obtain⟨v,d,h1,h2,h3⟩:=h;have hp:2^a≤2^b:=acR (by omega) hab;exact⟨v,d,h1,acS h2 hp,fun k hk=>⟨(h3 k hk).1,acS (h3 k hk).2 hp⟩⟩
theorem cross {q:Rat} {v d:Int} (hd:d≠0) (h:q*(d:Rat)=(v:Rat)):q.num*d=v*q.den:=by
 have hd':(d:Rat)≠0:=by rw[Ne,acT];exact hd
 have e:q=acU v d:=by rw[acV];grind
 have e2:acU q.num q.den=acU v d:=by rw[Rat.num_divInt_den];exact e
 exact (Rat.divInt_eq_divInt_iff (kF q) hd).1 e2
theorem fD {q:Rat} {v d:Int} (hd:d≠0) (h:q*(d:Rat)=(v:Rat)):q.num.natAbs≤v.natAbs∧q.den≤d.natAbs:=by
 have hc:=cross hd h
 have hc':q.num.natAbs*d.natAbs=v.natAbs*q.den:=by
  have:=congrArg Int.natAbs hc
  rwa [ach,ach,acW] at this
 have hdd:q.den∣d.natAbs:=(Nat.Coprime.symm q.reduced).dvd_of_dvd_mul_left ⟨v.natAbs,by rw[hc',acp]⟩
 have hdp:0<d.natAbs:=by omega
 have h2:=Nat.le_of_dvd hdp hdd;refine⟨?_,h2⟩;obtain⟨m,hm⟩:=hdd;rw[hm] at hc';have hqp:=q.den_pos
 have h3:q.num.natAbs*m=v.natAbs:=by
  have:q.den*(q.num.natAbs*m)=q.den*v.natAbs:=by rw[acp q.den v.natAbs,←hc'];rw[acn]
  exact Nat.eq_of_mul_eq_mul_left hqp this
 have hm0:0<m:=by
  rcases acX m with h0 | h0
  ·rw[h0,Nat.mul_zero] at hm;omega
  ·exact h0
 rw[←h3];exact Nat.le_mul_of_pos_right _ hm0
def szR (b:Nat) (q:Rat):Prop:=q.num.natAbs≤2^b∧q.den≤2^b
theorem CD.sz {N b:Nat} {q:Nat→Rat} (h:CD N q b) {k:Nat} (hk:k≤N):szR b (q k):=by
 obtain⟨v,d,h1,h2,h3⟩:=h;obtain⟨e1,e2⟩:=h3 k hk;obtain⟨f1,f2⟩:=fD h1 e1;exact⟨acS f1 e2,acS f2 h2⟩
theorem IQ (a b c:Nat) (h:a=2^b):a^c=2^(b*c):=by rw[h,←Nat.pow_mul]
theorem EH:∃ B:Nat,B=1200∧LIM=2^B:=⟨20*60,rfl,IQ 1048576 20 60 (by decide)⟩
theorem ns {z:Int} {b:Nat} (h:z.natAbs≤2^b) (hb:b<1200):okZ z=true:=by
 obtain⟨B,hB,hL⟩:=EH;unfold okZ;rw[hL,decide_eq_true_eq];exact Nat.lt_of_le_of_lt h (Nat.pow_lt_pow_right (by omega) (by omega))
theorem i5 {x y:Int} {a b:Nat} (hx:x.natAbs≤2^a) (hy:y.natAbs≤2^b):(x*y).natAbs≤2^(a+b):=by
 rw[ach,acY];exact aci hx hy
theorem HP {x y:Int} {a:Nat} (hx:x.natAbs≤2^a) (hy:y.natAbs≤2^a):(x+y).natAbs≤2^(a+1):=by
 have:=Int.natAbs_add_le x y;rw[aco];omega
theorem szR.mono {a b:Nat} {q:Rat} (h:szR a q) (hab:a≤b):szR b q:=by
 have hp:2^a≤2^b:=acR (by omega) hab;exact⟨acS h.1 hp,acS h.2 hp⟩
theorem uc {x y:Rat} {a b:Nat} (hx:szR a x) (hy:szR b y) (h:a+b<1200):pL x y=true:=by
 unfold pL;rw[abW];exact⟨ns (i5 hx.1 hy.1) h,ns (i5 (x:=(x.den:Int)) (y:=(y.den:Int)) (by simpa using hx.2) (by simpa using hy.2)) h⟩
theorem zD {x y:Rat} {a b:Nat} (hx:szR a x) (hy:szR b y) (h:a+b<1200):nG x y=true:=by
 unfold nG;rw[abW];exact⟨ns (i5 (y:=(y.den:Int)) hx.1 (by simpa using hy.2)) h,ns (i5 (x:=(x.den:Int)) (by simpa using hx.2) hy.1) h⟩
theorem kQ {x y:Rat} {a b:Nat} (hx:szR a x) (hy:szR b y) (h:a+b+1<1200):gP x y=true:=by
 unfold gP;have h1:=i5 (y:=(y.den:Int)) hx.1 (by simpa using hy.2);have h2:=i5 (y:=(x.den:Int)) hy.1 (by simpa using hx.2);rw[acZ b a] at h2;simp only[abW];exact⟨ns h1 (by omega),ns h2 (by omega),ns (HP h1 h2) h,ns (i5 (x:=(x.den:Int)) (y:=(y.den:Int)) (by simpa using hx.2) (by simpa using hy.2)) (by omega)⟩
theorem oh {b:Nat} {q:Rat} (h:szR b q):szR b (-q):=⟨by rw[ac0,Int.natAbs_neg];exact h.1,h.2⟩
theorem w7 {p q:Int} {b:Nat} (h1:p.natAbs≤2^b) (h2:q.natAbs≤2^b) (hq:q≠0):szR b (acU p q):=by
 have hq':(q:Rat)≠0:=by rw[Ne,acT];exact hq
 have:=fD (q:=acU p q) (v:=p) hq (by rw[acV];grind);exact⟨acS this.1 h1,acS this.2 h2⟩
theorem xA {x y:Rat} {a b:Nat} (hx:szR a x) (hy:szR b y):szR (a+b) (x*y):=by
 rw[←pB];exact w7 (i5 hx.1 hy.1) (i5 (x:=(x.den:Int)) (y:=(y.den:Int)) (by simpa using hx.2) (by simpa using hy.2)) (ac1 (kF x) (kF y))
theorem Ko {x y:Rat} {a b:Nat} (hx:szR a x) (hy:szR b y):szR (a+b+1) (x+y):=by
 rw[←pC];have h1:=i5 (y:=(y.den:Int)) hx.1 (by simpa using hy.2);have h2:=i5 (y:=(x.den:Int)) hy.1 (by simpa using hx.2);rw[acZ b a] at h2;have h3:=i5 (x:=(x.den:Int)) (y:=(y.den:Int)) (a:=a) (b:=b) (by simpa using hx.2) (by simpa using hy.2);exact w7 (HP h1 h2) (acS h3 (acR (by omega) (by omega))) (ac1 (kF x) (kF y))
theorem ND {x y:Rat} {a b:Nat} (hx:szR a x) (hy:szR b y) (h0:y≠0):szR (a+b) (x / y):=by
 rw[←pu];have hn:y.num≠0:=fun h=>h0 (Rat.num_eq_zero.1 h)
 exact w7 (i5 (y:=(y.den:Int)) hx.1 (by simpa using hy.2)) (i5 (x:=(x.den:Int)) (by simpa using hx.2) hy.1) (ac1 (kF x) hn)
def jH (A:Mat) (σ:Nat→Nat) (k:Nat):Col:=fun i=>A (σ i) k
def jE:Nat→List Nat
 | 0=>[]
 | p+1=>p::jE p
theorem mem_revL {k:Nat}:∀ {p:Nat},k∈jE p↔k<p
 | 0=>by simp [jE]
 | p+1=>by
  simp only[jE,acm,mem_revL (p:=p)];omega
theorem nK:∀ p,(jE p).length=p
 | 0=>rfl
 | p+1=>by simp [jE,nK p]
theorem t9 {l:Nat}:∀ {p:Nat},l<p→∃ X Y,jE p=X++l::Y∧∀ m,m∈X++Y↔m<p∧m≠l
 | 0,h=>by omega
 | p+1,h=>by
  by_cases hl:l=p
  ·subst hl
   refine⟨[],jE l,rfl,fun m=>?_⟩
   rw[aca,mem_revL];omega
  ·obtain⟨X,Y,h1,h2⟩:=t9 (l:=l) (p:=p) (by omega)
   refine⟨p::X,Y,by simp [jE,h1],fun m=>?_⟩
   rw[ab5,acm,h2];omega
def nz (A:Mat) (σ:Nat→Nat) (p:Nat):List Col:=(jE p).map (jH A σ)
theorem qL {n:Nat} {c c':Col} (X Y:List Col) (h:∀ i,i<n→c i=c' i):eD n (X++c::Y)=eD n (X++c'::Y):=by
 have:=wl (n:=n) (X.map (fun x=>(x,x))++(c,c')::Y.map (fun x=>(x,x))) Prod.fst Prod.snd (fun a ha i hi=>by
  simp only[acl,acm,acz] at ha;rcases ha with ⟨x,_,rfl⟩ | rfl | ⟨x,_,rfl⟩
  ·rfl
  ·exact h i hi
  ·rfl)
 simpa [Function.comp_def] using this
theorem Eu {A:Mat} {σ τ:Nat→Nat} {p:Nat} (h:∀ i,i<p→σ i=τ i):eD p (nz A σ p)=eD p (nz A τ p) :=
 wl _ _ _ fun a _ i hi=>by unfold jH;rw[h i hi]
def GI (N:Nat) (A Q:Mat) (σ:Nat→Nat) (p:Nat):Prop:=∀ i,i<N→∀ k,p≤k→k≤N→A (σ i) k=(if i<p then 0 else Q i k)+sumQ p fun l=>A (σ i) l*Q l k
def DI (N:Nat) (A Q:Mat) (p:Nat):Prop:=∃ σ:Nat→Nat,(∀ i,i<N→σ i<N)∧GI N A Q σ p∧eD p (nz A σ p)≠0
theorem DI.start (N:Nat) (A:Mat):DI N A A 0:=by
 refine⟨fun i=>i,fun i h=>h,fun i hi k _ hk=>?_,?_⟩
 ·rw[if_neg (by omega)];show A i k=A i k+0;grind
 ·show (1:Rat)≠0;decide
theorem Mh {p:Nat} (a x y:Nat→Rat) (t:Rat):sumQ p (fun l=>a l*(x l-y l*t))=sumQ p (fun l=>a l*x l)-t*sumQ p fun l=>a l*y l:=by
 have:(fun l=>a l*(x l-y l*t))=fun l=>a l*x l+(-t)*(a l*y l):=by funext l;grind
 rw[this,kI,lV];grind
theorem DI.step {N p s:Nat} {A Q:Mat} (h:DI N A Q p) (hp:p<N) (hs:p≤s) (hsN:s<N) (hne:Q s p≠0):DI N A (mD Q p p s) (p+1):=by
 obtain⟨σ,hσ,hr,hd⟩:=h
 let π:Nat→Nat:=fun i=>if i=s then p else if i=p then s else i
 have hπ:∀ i,c8 Q p s i=Q (π i):=by
  intro i
  show (if i=s then Q p else if i=p then Q s else Q i)=Q (if i=s then p else if i=p then s else i)
  split
  ·rfl
  ·split<;>rfl
 have hπN:∀ i,i<N→π i<N:=fun i hi=>by show (if i=s then p else if i=p then s else i)<N;split<;>(try split)<;>omega
 have hπp:∀ i,i<p→π i=i:=fun i hi=>by show (if i=s then p else if i=p then s else i)=i;rw[if_neg (by omega),if_neg (by omega)]
 have hπq:∀ i,p≤i→p≤π i:=fun i hi=>by show p≤(if i=s then p else if i=p then s else i);split<;>(try split)<;>omega
 have hS:GI N A (c8 Q p s) (fun i=>σ (π i)) p:=by
  intro i hi k hk1 hk2;have:=hr (π i) (hπN i hi) k hk1 hk2;rw[this]
  congr 1
  ·by_cases hip:i<p
   ·rw[if_pos hip,if_pos (by rw[hπp i hip];exact hip)]
   ·rw[if_neg hip,if_neg (by have:=hπq i (by omega);omega),hπ]
  ·refine bR fun l hl=>?_
   rw[hπ l,hπp l hl]
 have hSp:c8 Q p s p p≠0:=by rw[sN];exact hne
 generalize hSd:c8 Q p s=S at *
 have hq:mD Q p p s=fun i k=>if i=p then S p k / S p p else S i k-S i p*(S p k / S p p):=by
  funext i k;unfold mD;rw[hSd]
 rw[hq]
 have hd':eD p (nz A (fun i=>σ (π i)) p)≠0:=by
  rw[Eu (τ:=σ) fun i hi=>by show σ (π i)=σ i;rw[hπp i hi]]
  exact hd
 generalize hτ:(fun i=>σ (π i))=τ at *;refine⟨τ,fun i hi=>by rw[←hτ];exact hσ _ (hπN i hi),fun i hi k hk1 hk2=>?_,?_⟩
 ·have e1:=hS i hi k (by omega) hk2
  have e2:=hS i hi p (by omega) (by omega);simp only[sumQ,if_true];rw[bR (g:=fun l=>A (τ i) l*(S l k-S l p*(S p k / S p p))) fun l hl=>by rw[if_neg (by omega)],Mh]
  generalize sumQ p (fun l=>A (τ i) l*S l k)=X at *;generalize sumQ p (fun l=>A (τ i) l*S l p)=Y at *
  by_cases h1:i<p
  ·rw[if_pos h1] at e1 e2
   rw[if_pos (by omega)];grind
  ·rw[if_neg h1] at e1 e2
   by_cases h2:i=p
   ·subst h2
    rw[if_pos (by omega)];grind
   ·rw[if_neg (by omega),if_neg h2]
    grind
 ·have hc:eD (p+1) (nz A τ (p+1))=S p p*eD p (nz A τ p):=by
   show eD (p+1) ([]++jH A τ p::nz A τ p)=_
   rw[qL (c':=A9 (fun i=>if i<p then 0 else S i p) (fun i=>sumQ p fun l=>S l p*jH A τ l i) 1) [] _ fun i hi=>by
    have:=hS i (by omega) p (by omega) (by omega)
    show A (τ i) p=(if i<p then 0 else S i p)+1*sumQ p fun l=>S l p*A (τ i) l
    rw[this,ab7]
    congr 1
    exact bR fun l _=>ac2 _ _]
   rw[mB,oc,gE fun l hl=>by
    rw[u6 (by rw[aca];exact ac3 (mem_revL.2 hl))];exact abK _]
   rw[aca,Aj fun i hi=>if_pos hi,if_neg (by omega)]
   grind
  rw[hc];intro h0;rcases Rat.mul_eq_zero.1 h0 with h0 | h0
  ·exact hSp h0
  ·exact hd' h0
theorem zh {N p l k:Nat} {A Q:Mat} {σ:Nat→Nat} (hr:GI N A Q σ p) (hp:p≤N) (hl:l<p) (hk1:p≤k) (hk2:k≤N):∃ L:List Nat,L.length=p∧(∀ m∈L,m<p∨m=k)∧L.count k≤1∧Q l k*eD p (nz A σ p)=eD p (L.map (jH A σ)):=by
 obtain⟨X,Y,hX,hm⟩:=t9 hl;have hlen:=nK p;rw[hX] at hlen;refine⟨X++k::Y,by simp at hlen ⊢;omega,fun m hmm=>?_,?_,?_⟩
 ·have:m=k∨m∈X++Y:=by
   simp only[acl,acm] at hmm ⊢;rcases hmm with h | h | h<;>simp [h]
  rcases this with h | h
  ·exact .inr h
  ·exact .inl ((hm m).1 h).1
 ·have h0:∀ Z:List Nat,(∀ m∈Z,m∈X++Y)→Z.count k=0:=fun Z hZ=>List.count_eq_zero.2 fun hz=>by have:=((hm k).1 (hZ k hz)).1;omega
  rw[List.count_append,ac4,h0 X (by simp +contextual),h0 Y (by simp +contextual)];omega
 ·rw[acd,ab0]
  rw[qL (c':=fun i=>sumQ p fun m=>Q m k*jH A σ m i) _ _ fun i hi=>by
   have:=hr i (by omega) k hk1 hk2;rw[if_pos hi] at this
   show A (σ i) k=sumQ p fun m=>Q m k*A (σ i) m
   rw[this,ac5];exact bR fun l _=>ac2 _ _]
  rw[oc,iW hl fun m hmp hml=>by
   rw[u6 (by rw[←acd];exact ac3 ((hm m).2 ⟨hmp,hml⟩))];exact abK _]
  unfold nz;rw[hX,acd,ab0]
theorem Hr {N p i k:Nat} {A Q:Mat} {σ:Nat→Nat} (hr:GI N A Q σ p) (hi1:p≤i) (hi2:i<N) (hk1:p≤k) (hk2:k≤N):Q i k*eD p (nz A σ p)=eD (p+1) ((k::jE p).map (jH A fun j=>if j=p then σ i else σ j)):=by
 have hτ:∀ j,j<p→(fun j=>if j=p then σ i else σ j) j=σ j:=fun j hj=>if_neg (by omega)
 have hτp:(fun j=>if j=p then σ i else σ j) p=σ i:=if_pos rfl;generalize (fun j=>if j=p then σ i else σ j)=τ at *
 show _=eD (p+1) ([]++jH A τ k::nz A τ p)
 rw[qL (c':=A9 (fun j=>if j<p then 0 else Q i k) (fun j=>sumQ p fun l=>Q l k*jH A τ l j) 1) [] _ fun j hj=>by
  show A (τ j) k=(if j<p then 0 else Q i k)+1*sumQ p fun l=>Q l k*A (τ j) l
  rw[ab7]
  by_cases hjp:j<p
  ·have:=hr j (by omega) k hk1 hk2
   rw[if_pos hjp] at this ⊢;rw[hτ j hjp,this]
   congr 1
   exact bR fun l _=>ac2 _ _
  ·obtain rfl:j=p:=by omega
   have:=hr i hi2 k hk1 hk2;rw[if_neg (by omega)] at this;rw[if_neg hjp,hτp,this]
   congr 1
   exact bR fun l _=>ac2 _ _]
 rw[mB,oc,gE fun l hl=>by
  rw[u6 (by rw[aca];exact ac3 (mem_revL.2 hl))];exact abK _]
 rw[aca,Aj fun i hi=>if_pos hi,if_neg (by omega),Eu fun j hj=>(hτ j hj).symm]
 grind
theorem Jb (n:Nat) (X Y:List Col) (x:Col) (a:Rat):eD n (X++(fun i=>a*x i)::Y)=a*eD n (X++x::Y):=by
 have:=oc n X Y (fun _=>a) (fun _=>x) 1;simp only[sumQ] at this;rw[ac5] at this;rw[←this];exact qL X Y fun i _=>(ac5 _).symm
theorem rh (n:Nat) (D:Nat→Rat) (C:Nat→Col):∀ (L:List Nat) (X:List Col),∃ a:Rat,((∀ k∈L,D k≠0)→a≠0)∧eD n (X++L.map fun k=>fun i=>D k*C k i)=a*eD n (X++L.map C)
 | [],X=>⟨1,fun _=>by decide,by rw[ab7];rfl⟩
 | k::L,X=>by
  obtain⟨a,h1,h2⟩:=rh n D C L (X++[C k]);refine⟨D k*a,fun h=>?_,?_⟩
  ·intro h0
   rcases Rat.mul_eq_zero.1 h0 with h0 | h0
   ·exact h k ab2 h0
   ·exact h1 (fun m hm=>h m (ab3 _ hm)) h0
  ·simp only[ab0,ab9,ab5,aca] at h2 ⊢
   rw[Jb,h2,Rat.mul_assoc]
structure Scaled (N:Nat) (A:Mat) (b v:Nat):Prop where
 ex:∃ D:Nat→Nat,(∀ k,k≤N→0<D k∧D k≤2^(if k<N then b else v)∧∀ i,i<N→IZ (2^(if k<N then b else v)) (D k*A i k))
theorem zH {α:Type} (f:α→Col) (x:α→Nat):∀ L:List α,jz (L.map fun k=>(f k,2^x k))=2^(L.map x).sum
 | []=>rfl
 | k::L=>by simp only[ab0,jz,zH f x L,ac6,acY]
theorem HA (x:Nat→Nat) (k b:Nat):∀ L:List Nat,(∀ m∈L,m≠k→x m≤b)→(L.map x).sum≤L.length*b+L.count k*x k
 | [],_=>by simp
 | m::L,h=>by
  have ih:=HA x k b L fun n hn=>h n (ab3 _ hn)
  simp only[ab0,ac6,ab4,acj]
  by_cases hm:m=k
  ·subst hm
   rw[ac4,acj];omega
  ·rw[List.count_cons_of_ne hm]
   have:=h m ab2 hm;omega
theorem uf {N n c b v:Nat} {A:Mat} (hM:N^N≤2^c) (hn:n≤N) (hA:∀ k,k≤N→∀ i,i<N→IZ (2^(if k<N then b else v)) (A i k)) {σ:Nat→Nat} (hσ:∀ i,i<n→σ i<N) (L:List Nat) (hL:L.length≤N) (k:Nat) (hk:k≤N) (hm:∀ m∈L,m≠k→m<N) (hc:L.count k≤1) (e:Nat) (he:c+N*b+(if k<N then b else v)≤e) :
  IZ (2^e) (eD n (L.map (jH A σ))):=by
 let x:Nat→Nat:=fun k=>if k<N then b else v
 have h1:=HH N n (L.map fun k=>(jH A σ k,2^x k)) (fun p hp i hi=>by
  obtain⟨m,hmm,rfl⟩:=List.mem_map.1 hp
  have hmN:m≤N:=by
   by_cases hmk:m=k
   ·omega
   ·have:=hm m hmm hmk;omega
  exact hA m hmN (σ i) (hσ i hi)) (by rw[acE];exact hL)
 rw[acf,zH] at h1;have hf:((fun p:Col × Nat=>p.1) ∘ fun k=>(jH A σ k,2^x k))=jH A σ:=rfl;rw[hf] at h1;refine h1.mono ?_
 have h2:=HA x k b L fun m hmm hmk=>by
  show (if m<N then b else v)≤b;rw[if_pos (hm m hmm hmk)];exact abL _
 have h3:N^n≤2^c:=by
  rcases acX N with h0 | h0
  ·subst h0
   obtain rfl:n=0:=by omega
   exact hM
  ·exact acS (acR h0 hn) hM
 have h4:L.length*b≤N*b:=acq _ hL
 have h5:L.count k*x k≤x k:=by
  have:L.count k=0∨L.count k=1:=by omega
  rcases this with h | h<;>rw[h]<;>omega
 have h6:x k=if k<N then b else v:=rfl
 rw[←h6] at he
 calc N^n*2^(L.map x).sum≤2^c*2^(N*b+x k):=aci h3 (acR (by omega) (by omega))
  _=2^(c+(N*b+x k)):=by rw[←acY]
  _≤2^e:=acR (by omega) (by omega)
theorem DI.sz {N p c b v:Nat} {A Q:Mat} (hM:N^N≤2^c) (hA:Scaled N A b v) (h:DI N A Q p) (hp:p≤N) {i k:Nat} (hi:i<N) (hk1:p≤k) (hk2:k≤N):szR (c+(N+1)*b+(if k<N then b else v)) (Q i k):=by
 obtain⟨σ,hσ,hr,hd⟩:=h;obtain⟨D,hD⟩:=hA
 have hD0:∀ m,m≤N→((D m:Nat):Rat)≠0:=fun m hm=>by
  have:=(hD m hm).1;rw[Ne,ac7];omega
 -- the scaled matrix
 have hr2:GI N (fun i k=>D k*A i k) (fun l k=>if l<p then D k*Q l k / D l else D k*Q l k) σ p:=by
  intro i hi k hk1 hk2;have:=hr i hi k hk1 hk2
  show (D k:Rat)*A (σ i) k=_;rw[this,ac8,←lV]
  congr 1
  ·split<;>grind
  ·refine bR fun l hl=>?_
   dsimp only;rw[if_pos hl];have:=hD0 l (by omega);grind
 have hd2:eD p (nz (fun i k=>D k*A i k) σ p)≠0:=by
  obtain⟨a,h1,h2⟩:=rh p (fun k=>(D k:Rat)) (jH A σ) (jE p) [];have hcol:nz (fun i k=>D k*A i k) σ p=(jE p).map fun k=>fun i=>(D k:Rat)*jH A σ k i:=rfl
  rw[aca,aca] at h2;rw[hcol,h2];intro h0;rcases Rat.mul_eq_zero.1 h0 with h0 | h0
  ·exact h1 (fun m hm=>hD0 m (by have:=mem_revL.1 hm;omega)) h0
  ·exact hd h0
 have hA2:∀ k,k≤N→∀ i,i<N→IZ (2^(if k<N then b else v)) ((fun i k=>(D k:Rat)*A i k) i k):=fun k hk i hi=>(hD k hk).2.2 i hi
 generalize hA2d:(fun (i k:Nat)=>(D k:Rat)*A i k)=A2 at *
 have hden:IZ (2^(c+N*b+b)) (eD p (nz A2 σ p)):=by
  rcases acX N with h0 | h0
  ·omega
  ·refine uf hM hp hA2 (fun i hi=>hσ i (by omega)) (jE p) (by rw[nK];exact hp) 0 (by omega) (fun m hm _=>by have:=mem_revL.1 hm;omega) ?_ _ (by rw[if_pos h0];exact abL _)
   have:∀ p,(jE p).count 0≤1:=by
    intro p
    induction p with
    | zero=>simp [jE]
    | succ p ih =>
     simp only[jE];rw[ac9]
     by_cases hp0:p=0
     ·subst hp0;simp [jE]
     ·rw[if_neg (by simpa using hp0)];exact ih
   exact this p
 obtain⟨d,hdz,hdb⟩:=hden
 have hd0:d≠0:=by
  intro h0;rw[hdz,h0] at hd2;exact hd2 (by rfl)
 obtain⟨hDk0,hDkb,-⟩:=hD k hk2;have hsum:(N+1)*b=N*b+b:=acj N b
 by_cases hip:i<p
 ·obtain⟨L,hL1,hL2,hL3,hL4⟩:=zh hr2 hp hip hk1 hk2
  obtain⟨m,hmz,hmb⟩:=uf hM hp hA2 (fun i hi=>hσ i (by omega)) L (by omega) k hk2 (fun m hm hmk=>by rcases hL2 m hm with h | h<;>omega) hL3 _ (abL _);rw[if_pos hip,hmz,hdz] at hL4;have hi0:=hD0 i (by omega)
  have he:Q i k*(((D k:Int)*d:Int):Rat)=(((D i:Int)*m:Int):Rat):=by
   rw[acg,acg,←hL4,ada,ada];grind
  obtain⟨f1,f2⟩:=fD (ac1 (by omega) hd0) he;obtain⟨-,hDib,-⟩:=hD i (by omega);rw[if_pos hi] at hDib;refine⟨acS f1 ?_,acS f2 ?_⟩
  ·rw[ach,acW]
   refine acS (aci hDib hmb) ?_;rw[←acY];exact acR (by omega) (by omega)
  ·rw[ach,acW]
   refine acS (aci hDkb hdb) ?_;rw[←acY];exact acR (by omega) (by omega)
 ·have hL4:=Hr hr2 (by omega) hi hk1 hk2
  have hτ:∀ j,j<p+1→(fun j=>if j=p then σ i else σ j) j<N:=fun j hj=>by
   show (if j=p then σ i else σ j)<N
   split
   ·exact hσ i hi
   ·exact hσ j (by omega)
  obtain⟨m,hmz,hmb⟩:=uf (n:=p+1) hM (by omega) hA2 hτ (k::jE p) (by rw[ab4,nK];omega) k hk2 (fun m hm hmk=>by
   rcases List.mem_cons.1 hm with h | h
   ·exact absurd h hmk
   ·have:=mem_revL.1 h;omega) (by rw[ac4,List.count_eq_zero.2 fun hz=>by have:=mem_revL.1 hz;omega];omega) _ (abL _)
  rw[if_neg hip,hmz,hdz] at hL4
  have he:Q i k*(((D k:Int)*d:Int):Rat)=((m:Int):Rat):=by
   rw[acg,←hL4,ada];grind
  obtain⟨f1,f2⟩:=fD (ac1 (by omega) hd0) he;refine⟨acS f1 (acS hmb ?_),acS f2 ?_⟩
  ·exact acR (by omega) (by omega)
  ·rw[ach,acW]
   refine acS (aci hDkb hdb) ?_;rw[←acY];exact acR (by omega) (by omega)
theorem DI.cd {N c b v:Nat} {A Q:Mat} (hM:N^N≤2^c) (hA:Scaled N A b v) (h:DI N A Q N):∃ M:Nat,0<M∧M≤2^(c+(N+1)*b+v)∧∀ i,i<N→∃ z:Int,Q i N*(M:Rat)=(z:Rat):=by
 obtain⟨p,hpN⟩:∃ p,p=N:=⟨N,rfl⟩;have hp:p≤N:=by omega
 have h:DI N A Q p:=by rw[hpN];exact h
 obtain⟨σ,hσ,hr,hd⟩:=h;obtain⟨D,hD⟩:=hA
 have hD0:∀ m,m≤N→((D m:Nat):Rat)≠0:=fun m hm=>by
  have:=(hD m hm).1;rw[Ne,ac7];omega
 -- the scaled matrix
 have hr2:GI N (fun i k=>D k*A i k) (fun l k=>if l<p then D k*Q l k / D l else D k*Q l k) σ p:=by
  intro i hi k hk1 hk2;have:=hr i hi k hk1 hk2
  show (D k:Rat)*A (σ i) k=_;rw[this,ac8,←lV]
  congr 1
  ·split<;>grind
  ·refine bR fun l hl=>?_
   dsimp only;rw[if_pos hl];have:=hD0 l (by omega);grind
 have hd2:eD p (nz (fun i k=>D k*A i k) σ p)≠0:=by
  obtain⟨a,h1,h2⟩:=rh p (fun k=>(D k:Rat)) (jH A σ) (jE p) [];have hcol:nz (fun i k=>D k*A i k) σ p=(jE p).map fun k=>fun i=>(D k:Rat)*jH A σ k i:=rfl
  rw[aca,aca] at h2;rw[hcol,h2];intro h0;rcases Rat.mul_eq_zero.1 h0 with h0 | h0
  ·exact h1 (fun m hm=>hD0 m (by have:=mem_revL.1 hm;omega)) h0
  ·exact hd h0
 have hA2:∀ k,k≤N→∀ i,i<N→IZ (2^(if k<N then b else v)) ((fun i k=>(D k:Rat)*A i k) i k):=fun k hk i hi=>(hD k hk).2.2 i hi
 generalize hA2d:(fun (i k:Nat)=>(D k:Rat)*A i k)=A2 at *
 have hden:IZ (2^(c+N*b+b)) (eD p (nz A2 σ p)):=by
  rcases acX N with h0 | h0
  ·have hp0:p=0:=by omega
   subst hp0;exact⟨1,by rfl,adb⟩
  ·refine uf hM hp hA2 (fun i hi=>hσ i (by omega)) (jE p) (by rw[nK];exact hp) 0 (by omega) (fun m hm _=>by have:=mem_revL.1 hm;omega) ?_ _ (by rw[if_pos h0];exact abL _)
   have:∀ p,(jE p).count 0≤1:=by
    intro p
    induction p with
    | zero=>simp [jE]
    | succ p ih =>
     simp only[jE];rw[ac9]
     by_cases hp0:p=0
     ·subst hp0;simp [jE]
     ·rw[if_neg (by simpa using hp0)];exact ih
   exact this p
 obtain⟨d,hdz,hdb⟩:=hden
 have hd0:d≠0:=by
  intro h0;rw[hdz,h0] at hd2;exact hd2 (by rfl)
 obtain⟨hDk0,hDkb,-⟩:=hD N (abL _);have hsum:(N+1)*b=N*b+b:=acj N b;rw[if_neg (by omega)] at hDkb
 have hcast:∃ s:Int,(s=1∨s = -1)∧(((D N:Int)*d).natAbs:Int)=s*((D N:Int)*d):=by
  rcases Int.natAbs_eq ((D N:Int)*d) with e | e
  ·exact⟨1,.inl rfl,by omega⟩
  ·exact⟨-1,.inr rfl,by omega⟩
 obtain⟨s,-,hs⟩:=hcast;have h0:(D N:Int)*d≠0:=ac1 (by omega) hd0;refine⟨((D N:Int)*d).natAbs,Int.natAbs_pos.2 h0,?_,fun i hi=>?_⟩
 ·rw[ach,acW]
  refine acS (aci hDkb hdb) ?_;rw[←acY];exact acR (by omega) (by omega)
 ·obtain⟨L,hL1,hL2,hL3,hL4⟩:=zh hr2 hp (by omega:i<p) (by omega:p≤N) (abL N)
  obtain⟨m,hmz,hmb⟩:=uf hM hp hA2 (fun i hi=>hσ i (by omega)) L (by omega) N (abL _) (fun m hm hmk=>by rcases hL2 m hm with h | h<;>omega) hL3 _ (abL _);rw[if_pos (by omega),hmz,hdz] at hL4;have hi0:=hD0 i (by omega);refine⟨s*(D i*m),?_⟩;have e:((((D N:Int)*d).natAbs:Nat):Rat)=((((D N:Int)*d).natAbs:Int):Rat):=(ada _).symm;rw[e,hs,acg,acg,acg,acg,←hL4,ada,ada];grind
def bH (N:Nat) (x:Nat→Rat):List aF:=((abS N).map x).map aj
theorem cW (N:Nat) (x:Nat→Rat):(bH N x).length=N:=by simp [bH]
theorem eP {N k:Nat} (x:Nat→Rat) (h:k<N):(bH N x)[k]?=some (aj (x k)):=by
 unfold bH;rw[acr,acr,acs h];rfl
theorem p7 {N:Nat} {l:List aF} {x:Nat→Rat} (hl:l.length=N) (h:∀ k,k<N→l[k]?=some (aj (x k))):l=bH N x:=by
 apply act;intro k;rcases ab8 k N with hk | hk
 ·rw[h k hk,eP x hk]
 ·rw[acu (by omega),acu (by rw[cW];omega)]
theorem jk {N:Nat} {x y:Nat→Rat} (h:∀ k,k<N→x k=y k):bH N x=bH N y :=
 p7 (cW N x) fun k hk=>by rw[eP x hk,h k hk]
theorem sJ {N:Nat} {x:Nat→Rat} (hN:N≤40) (h:∀ k,k<N→cg (x k)):okL (bH N x):=by
 refine⟨by rw[cW];omega,fun f hf=>?_⟩
 obtain⟨k,hk⟩:=List.mem_iff_getElem?.1 hf;have hkN:k<N:=by have:=(List.getElem?_eq_some_iff.1 hk).1;rwa [cW] at this
 rw[eP x hkN] at hk
 cases hk;exact et (h k hkN)
def MX (N:Nat) (M:Mat) (x:Nat→Rat):Prop:=(∀ y,Ann N M (ext N y (-1))↔∀ k,k<N→y k=x k)∧∀ y,Ann N M (ext N y 0)→∀ k,k<N→y k=0
def Sing (N:Nat) (M:Mat):Prop:=∃ y,Ann N M (ext N y 0)∧∃ k,k<N∧y k≠0
theorem Fj {N:Nat} {rows:List MR} {Q:Mat} (h:EncM N rows Q):rows.map (jN N)=bH N (fun i=>Q i N) :=
 p7 (by rw[acE];exact h.1) fun k hk=>by
  obtain⟨x,hx,-,vx⟩:=h.row hk;rw[acr,hx,acF];unfold jN;rw[abX,vx.get (abL _)]
  rfl
theorem Elim.lim {N:Nat} {Q Q':Mat} {rows:List MR} {p c:Nat} {pv:Nat→Nat} (h:Elim N Q Q' rows p c pv) {i k:Nat} (hi:i<N) (hk:k≤N):cg (Q' i k):=by
 obtain⟨x,-,-,vx⟩:=h.enc.row hi;exact vx.2 k hk
theorem se {q:Rat} (h:cg q):gP 0 (-q)=true:=by
 unfold gP;simp only[abW]
 have h1:okZ ((-q).num*((0:Rat).den:Int))=true:=by
  rw[ac0,adc];unfold okZ;rw[decide_eq_true_eq];have:=h.1;omega
 refine⟨?_,h1,?_,?_⟩
 ·rw[ade,adf];decide +kernel
 ·rw[ade,adf,Int.zero_add];exact h1
 ·rw[adc,Rat.neg_den]
  unfold okZ;rw[decide_eq_true_eq];have:=h.2;omega
theorem wu:cg 0:=⟨by decide +kernel,by decide +kernel⟩
theorem Ma {N f:Nat} {rows:List MR} {Q:Mat} (h:EncM N rows Q) (hf:f<N):ID rows f N f=bH N (qU Q f) :=
 p7 (HL _ _ _ _) fun k hk=>by
  unfold ID;rw[acr,acs hk,acF];unfold qU
  by_cases h1:k<f
  ·rw[if_pos h1,if_pos h1]
   obtain⟨x,-,ex,vx⟩:=h.row (i:=k) (by omega);rw[ex,vx.cell (by omega),←wq,qw wu (vx.2 f (by omega)),se (vx.2 f (by omega))]
   rfl
  ·rw[if_neg h1,if_neg h1]
   by_cases h2:k=f
   ·rw[if_pos h2,if_pos h2,IC]
   ·rw[if_neg h2,if_neg h2,wq]
theorem xq {N:Nat} {M Q:Mat} (h:∀ y,Ann N Q y↔Ann N M y):∀ y z,Ann N Q (ext N y z)↔Ann N M (ext N y z):=fun _ _=>h _
theorem zm {rs:List cD} {n:Int} (h:fv rs n=true) :
  (gS rs n=([],6)) ∨
  (∃ x,gS rs n=(bH rs.length x,0)∧I5 rs n=([],false)∧(∀ k,k<rs.length→cg (x k))∧MX rs.length (jW rs) x) ∨
  (∃ y,gS rs n=([],17)∧I5 rs n=(bH rs.length y,true)∧(∀ k,k<rs.length→cg (y k))∧Ann rs.length (jW rs) (ext rs.length y 0)∧∃ k,k<rs.length∧y k=1):=by
 unfold gS I5;rw[if_pos h];rcases hx:jS true rs with ⟨rows',free',bad⟩
 cases bad
 ·right
  obtain⟨Q,p,c,pv,he,-,hs⟩:=Dy true h hx;rw[if_pos h];rcases hs rfl with ⟨rfl,rfl,rfl,hpv⟩ | ⟨f,rfl,hf,rfl,rfl,hpv,hz⟩
  ·left
   refine⟨fun i=>Q i rs.length,?_,rfl,fun k hk=>he.lim hk (abL _),fun y=>?_,fun y hy=>?_⟩
   ·rw[if_neg (by simp),if_neg (by simp),Fj he.enc]
   ·rw[←xq he.ann]
    exact qP he.red hpv y
   ·exact Bd he.red hpv y ((xq he.ann y 0).2 hy)
  ·right
   refine⟨qU Q c,?_,?_,fun k hk=>?_,?_,⟨c,hf,by unfold qU;simp⟩⟩
   ·rw[if_neg (by simp),if_pos (by simp)]
   ·rw[if_neg (by simp)]
    exact congrArg (fun l=>(l,true)) (Ma he.enc hf)
   ·unfold qU
    split
    ·exact Ep (se (he.lim hk (by omega)))
    ·split
     ·exact⟨by decide +kernel,by decide +kernel⟩
     ·exact wu
   ·exact (xq he.ann _ _).1 (ux he.red hpv hf hz)
 ·left
  rw[if_pos rfl]
theorem zi (Q:Mat) {N p s:Nat} (hp:p<N) (hs:p≤s) (hsN:s<N) {i:Nat} (hi:i<N):∃ i',i'<N∧c8 Q p s i=Q i':=by
 unfold c8
 by_cases h1:i=s
 ·exact⟨p,hp,by rw[if_pos h1]⟩
 ·by_cases h2:i=p
  ·exact⟨s,hsN,by rw[if_neg h1,if_pos h2]⟩
  ·exact⟨i,hi,by rw[if_neg h1,if_neg h2]⟩
theorem Mf (b:Nat) (p:Prop) [Decidable p]:szR b (if p then 1 else 0):=by
 have hb:1≤2^b:=adb
 split
 ·exact⟨hb,hb⟩
 ·exact⟨Nat.zero_le _,hb⟩
theorem DI.all {N p c b v:Nat} {A Q:Mat} {pv:Nat→Nat} (hM:N^N≤2^c) (hA:Scaled N A b v) (hb:b≤v) (h:DI N A Q p) (hr:Red N Q p p pv) (hpv:∀ j,j<p→pv j=j) (hp:p≤N) {i k:Nat} (hi:i<N) (hk:k≤N):szR (c+(N+1)*b+v) (Q i k):=by
 by_cases hkp:k<p
 ·have:=hr.unit k hkp i hi
  rw[hpv k hkp] at this;rw[this];exact Mf _ _
 ·refine (h.sz hM hA hp hi (by omega) hk).mono ?_
  split<;>omega
theorem GL {N p s c b v:Nat} {A Q:Mat} {pv:Nat→Nat} (hM:N^N≤2^c) (hA:Scaled N A b v) (hb:b≤v) (h:DI N A Q p) (hr:Red N Q p p pv) (hpv:∀ j,j<p→pv j=j) (hp:p<N) (hs:p≤s) (hsN:s<N) (hne:Q s p≠0) (hlim:2*(c+(N+1)*b+v)+(c+(N+2)*b)+1<1200):MW N (c8 Q p s) p p:=by
 have h2:=h.step hp hs hsN hne;have hr2:=hr.piv hp hs hsN hne
 have hpv2:∀ j,j<p+1→(if j=p then p else pv j)=j:=fun j hj=>by
  split
  ·omega
  ·exact hpv j (by omega)
 have e1:(N+2)*b=(N+1)*b+b:=acj (N+1) b
 have hall:∀ i,i<N→∀ k,k≤N→szR (c+(N+1)*b+v) (c8 Q p s i k):=by
  intro i hi k hk;obtain⟨i',h1,e⟩:=zi Q hp hs hsN hi;rw[e];exact h.all hM hA hb hr hpv (by omega) h1 hk
 have hcol:∀ i,i<N→szR (c+(N+2)*b) (c8 Q p s i p):=by
  intro i hi;obtain⟨i',h1,e⟩:=zi Q hp hs hsN hi;rw[e];have:=h.sz hM hA (by omega) h1 (abL p) (by omega);rw[if_pos hp] at this;exact this.mono (by omega)
 have hquo:∀ k,k≤N→szR (c+(N+1)*b+v) (c8 Q p s p k / c8 Q p s p p):=by
  intro k hk;have:=h2.all hM hA hb hr2 hpv2 (by omega) (i:=p) hp hk;unfold mD at this
  rwa [if_pos rfl] at this
 refine⟨fun k hk=>zD (hall p hp k hk) (hcol p hp) (by omega),fun i hi _ _ k hk=>?_⟩
 unfold iu;rw[abW];exact⟨uc (hcol i hi) (hquo k hk) (by omega),kQ (hall i hi k hk) (oh (xA (hcol i hi) (hquo k hk))) (by omega)⟩
theorem CA {N c b v:Nat} {A:Mat} (hM:N^N≤2^c) (hA:Scaled N A b v) (hb:b≤v) (hlim:2*(c+(N+1)*b+v)+(c+(N+2)*b)+1<1200) :
  ∀ k p rows Q pv,p+k=N→Elim N A Q rows p p pv→DI N A Q p→(∀ j,j<p→pv j=j)→(f6 true k p rows [] false).2.2=false:=by
 intro k
 induction k with
 | zero=>intro p rows Q pv _ _ _ _;rfl
 | succ k ih =>
  intro p rows Q pv hp he hd hpv;unfold f6;rw[acM,Nat.sub_zero];rcases yZ he.enc (r:=p) (c:=p) (by omega) (by omega) with ⟨h1,h2,h3,h4⟩ | ⟨h1,s,hs1,hs2,hs3,h4,h5⟩
  ·rw[h1,h2,h3,if_pos rfl,if_pos rfl]
  ·have hok:=GL hM hA hb hd he.red hpv (by omega) hs1 hs2 hs3 hlim
   have hb:=h5 hok;rw[h1,if_neg (by simp),hb];refine ih (p+1) _ (mD Q p p s) (fun j=>if j=p then p else pv j) (by omega) ⟨h4 hb,he.red.piv (by omega) hs1 hs2 hs3,fun y=>(yu (by omega) hs2 hs3).trans (he.ann y)⟩ (hd.step (by omega) hs1 hs2 hs3) fun j hj=>?_
   show (if j=p then p else pv j)=j
   split
   ·omega
   ·exact hpv j (by omega)
theorem C8 {rs:List cD} {n:Int} {c b v:Nat} (h:fv rs n=true) (hM:rs.length^rs.length≤2^c) (hA:Scaled rs.length (jW rs) b v) (hb:b≤v) (hlim:2*(c+(rs.length+1)*b+v)+(c+(rs.length+2)*b)+1<1200):gS rs n≠([],6):=by
 have hx:(jS true rs).2.2=false :=
  CA hM hA hb hlim rs.length 0 (dk rs) (jW rs) (fun j=>j) (by omega) ⟨D4 h,oI _ _ _,fun _=>Iff.rfl⟩ (DI.start _ _) fun j hj=>by omega
 unfold gS;rw[if_pos h,if_neg (by rw[hx];simp)]
 split
 ·simp
 ·simp
theorem CI {rs:List cD} {n:Int} {c b v:Nat} (h:fv rs n=true) (hM:rs.length^rs.length≤2^c) (hA:Scaled rs.length (jW rs) b v) (hb:b≤v) (hlim:2*(c+(rs.length+1)*b+v)+(c+(rs.length+2)*b)+1<1200) (hs:¬ Sing rs.length (jW rs)) :
  ∃ x,gS rs n=(bH rs.length x,0)∧(∀ k,k<rs.length→cg (x k))∧MX rs.length (jW rs) x:=by
 rcases zm h with e | ⟨x,e,-,h1,h2⟩ | ⟨y,-,-,-,h1,k,hk,hy⟩
 ·exact absurd e (C8 h hM hA hb hlim)
 ·exact⟨x,e,h1,h2⟩
 ·exact absurd ⟨y,h1,k,hk,by rw[hy];decide⟩ hs
theorem DI.full {N:Nat} {A:Mat} (hs:¬ Sing N A):∀ k p Q pv,p+k=N→Red N Q p p pv→(∀ y,Ann N Q y↔Ann N A y)→DI N A Q p→(∀ j,j<p→pv j=j)→∃ Q pv,DI N A Q N∧Red N Q N N pv∧(∀ j,j<N→pv j=j)∧∀ y,Ann N Q y↔Ann N A y
 | 0,p,Q,pv,hp,hr,ha,hd,hpv=>by
  obtain rfl:p=N:=by omega
  exact⟨Q,pv,hd,hr,hpv,ha⟩
 | k+1,p,Q,pv,hp,hr,ha,hd,hpv=>by
  by_cases hz:∀ i,p≤i→i<N→Q i p=0
  ·exfalso
   refine hs ⟨qU Q p,(ha _).1 (ux hr hpv (by omega) hz),p,by omega,?_⟩
   unfold qU;rw[if_neg (by omega),if_pos rfl]
   decide
  ·have⟨s,hs1,hs2,hs3⟩:∃ s,p≤s∧s<N∧Q s p≠0:=by
    apply abM;intro h;exact hz fun i h1 h2=>abM fun h3=>h ⟨i,h1,h2,h3⟩
   refine DI.full hs k (p+1) (mD Q p p s) (fun j=>if j=p then p else pv j) (by omega) (hr.piv (by omega) hs1 hs2 hs3) (fun y=>(yu (by omega) hs2 hs3).trans (ha y)) (hd.step (by omega) hs1 hs2 hs3) fun j hj=>?_
   show (if j=p then p else pv j)=j
   split
   ·omega
   ·exact hpv j (by omega)
theorem IS {N c b v:Nat} {A:Mat} (hs:¬ Sing N A) (hM:N^N≤2^c) (hA:Scaled N A b v) {x:Nat→Rat} (hx:Ann N A (ext N x (-1))):∃ M:Nat,0<M∧M≤2^(c+(N+1)*b+v)∧∀ i,i<N→∃ z:Int,x i*(M:Rat)=(z:Rat):=by
 obtain⟨Q,pv,⟨σ,h1,h2,h3⟩,-⟩:=DI.full hs N 0 A (fun j=>j) (by omega) (oI _ _ _) (fun _=>Iff.rfl) (DI.start _ _) (fun j hj=>by omega);refine DI.cd (Q:=fun i _=>x i) hM hA ⟨σ,h1,fun i hi k hk1 hk2=>?_,h3⟩
 obtain rfl:k=N:=by omega
 rw[if_pos hi];have:=hx (σ i) (h1 i hi);rw[p8] at this;grind
theorem Br {N:Nat} {A:Mat} (hs:¬ Sing N A):∃ x,Ann N A (ext N x (-1)):=by
 obtain⟨Q,pv,-,h1,h2,h3⟩:=DI.full hs N 0 A (fun j=>j) (by omega) (oI _ _ _) (fun _=>Iff.rfl) (DI.start _ _) (fun j hj=>by omega);exact⟨fun i=>Q i N,(h3 _).1 ((qP h1 h2 _).2 fun _ _=>rfl)⟩
end Go.Mini
namespace Go.Mini
open Classical
noncomputable def Day.W (d:Day) (f:Nat→Nat) (k i:Nat):Rat:=sumC d.cl fun c=>if c.to=(i:Int)∧c.fr=k∧c.rk=f k then d.w c else 0
noncomputable def Day.st (d:Day) (f:Nat→Nat) (i:Nat):Rat:=d.cash i+sumC d.cl fun c=>if c.to=(i:Int)∧c.rk<f c.fr then c.am else 0
theorem Day.OK.sum_W {d:Day} (hd:d.OK) (f:Nat→Nat) (P:Nat→Prop) (x:Nat→Rat) (i:Nat):(sumC d.cl fun c=>if c.to=(i:Int) then (if c.rk=f c.fr∧P c.fr then d.w c*x c.fr else 0) else 0)=sumQ d.n fun k=>if P k then d.W f k i*x k else 0:=by
 have e:=CY (n:=d.n) hd.fr fun k c=>if c.to=(i:Int) then (if c.rk=f k∧P k then d.w c*x k else 0) else 0
 rw[←e];refine bR fun k hk=>?_
 by_cases hP:P k
 ·rw[if_pos hP,ac2]
  unfold Day.W;rw[←pK];refine dV fun c _=>?_
  by_cases h1:c.fr=k
  ·by_cases h2:c.to=(i:Int)
   ·by_cases h3:c.rk=f k
    ·rw[if_pos h1,if_pos h2,if_pos ⟨h3,hP⟩,if_pos ⟨h2,h1,h3⟩,ac2]
    ·rw[if_pos h1,if_pos h2,if_neg fun h=>h3 h.1,if_neg fun h=>h3 h.2.2,abK]
   ·rw[if_pos h1,if_neg h2,if_neg fun h=>h2 h.1,abK]
  ·rw[if_neg h1,if_neg fun h=>h1 h.2.1,abK]
 ·rw[if_neg hP]
  refine l6 fun c _=>?_
  split
  ·split
   ·rw[if_neg fun h=>hP h.2]
   ·rfl
  ·rfl
theorem Day.OK.into_l {d:Day} (hd:d.OK) (f:Nat→Nat) (P:Nat→Prop) (h:Nat→Rat) (i:Nat):d.into (d.l f P h) i=d.st f i+sumQ d.n fun k=>if P k then d.W f k i*(h k-d.U k (f k)) else 0:=by
 rw[←hd.sum_W f P (fun k=>h k-d.U k (f k)) i];unfold Day.into Day.st;rw[Rat.add_assoc,←rb]
 congr 1
 refine dV fun c _=>?_
 unfold Day.l
 by_cases h1:c.to=(i:Int)
 ·rw[if_pos h1,if_pos h1]
  by_cases h2:c.rk<f c.fr
  ·have h3:c.to=(i:Int)∧c.rk<f c.fr:=⟨h1,h2⟩
   have h4:¬ (c.rk=f c.fr∧P c.fr):=fun h=>by have:=h.1;omega
   rw[if_pos h2,if_pos h3,if_neg h4,adg]
  ·have h3:¬ (c.to=(i:Int)∧c.rk<f c.fr):=fun h=>h2 h.2
   rw[if_neg h2,if_neg h3,ac5]
   by_cases h4:c.rk=f c.fr∧P c.fr
   ·rw[if_pos h4,if_pos h4,h4.1]
   ·rw[if_neg h4,if_neg h4]
 ·have h3:¬ (c.to=(i:Int)∧c.rk<f c.fr):=fun h=>h1 h.1
  rw[if_neg h1,if_neg h3,if_neg h1,adg]
noncomputable def Day.bigM (d:Day) (f:Nat→Nat) (P:Nat→Prop):Mat:=fun i k=>if k<d.n then (if i=k then 1 else 0)-(if P k then d.W f k i else 0) else d.st f i-sumQ d.n fun k=>if P k then d.W f k i*d.U k (f k) else 0
theorem yA {d:Day} (f:Nat→Nat) (P:Nat→Prop) (x:Nat→Rat) (z:Rat) {i:Nat} (hi:i<d.n):kA d.n (d.bigM f P i) (ext d.n x z)=x i-(sumQ d.n fun k=>if P k then d.W f k i*x k else 0)+(d.st f i-sumQ d.n fun k=>if P k then d.W f k i*d.U k (f k) else 0)*z:=by
 rw[p8]
 congr 1
 ·have e:=iW (n:=d.n) (f:=fun k=>if i=k then x k else 0) (j:=i) hi fun k _ hk=>if_neg (Ne.symm hk)
  rw[if_pos rfl] at e;rw[←e,←nP];refine bR fun k hk=>?_
  unfold Day.bigM;rw[if_pos hk]
  split<;>split<;>grind
 ·unfold Day.bigM
  rw[if_neg (by omega)]
theorem EP {d:Day} (hd:d.OK) (f:Nat→Nat) (P:Nat→Prop) (h:Nat→Rat):Ann d.n (d.bigM f P) (ext d.n h (-1))↔∀ i,i<d.n→h i=d.into (d.l f P h) i:=by
 have e:∀ i,(sumQ d.n fun k=>if P k then d.W f k i*(h k-d.U k (f k)) else 0)=(sumQ d.n fun k=>if P k then d.W f k i*h k else 0)-sumQ d.n fun k=>if P k then d.W f k i*d.U k (f k) else 0:=fun i=>by
  rw[←nP];refine bR fun k _=>?_
  split<;>grind
 unfold Ann
 constructor
 ·intro hA i hi
  have:=hA i hi;rw[yA f P h _ hi] at this;rw[hd.into_l,e];grind
 ·intro hA i hi
  have:=hA i hi;rw[hd.into_l,e] at this;rw[yA f P h _ hi];grind
structure Good (d:Day) (f:Nat→Nat) (P:Nat→Prop):Prop where
 ok:d.OK
 inv:∃ g,Inv d f g
 fallen:∀ i,P i→i<d.n∧f i<10
 open':∀ C:Nat→Prop,(∃ i,C i)→(∀ i,C i→P i)→¬ d.closed f C
theorem Good.hom {d:Day} {f:Nat→Nat} {P:Nat→Prop} (hg:Good d f P) {x:Nat→Rat} (hx:∀ i,i<d.n→x i=sumQ d.n fun k=>if P k then d.W f k i*x k else 0):∀ i,i<d.n→x i=0:=by
 obtain⟨g,hi⟩:=hg.inv;exact Bz hi hg.ok hg.fallen hg.open' x fun i hin=>by rw[hg.ok.sum_W f P x i];exact hx i hin
theorem Good.big {d:Day} {f:Nat→Nat} {P:Nat→Prop} (hg:Good d f P):¬ Sing d.n (d.bigM f P):=by
 rintro⟨y,hy,k,hk,hne⟩;refine hne (hg.hom (x:=y) (fun i hi=>?_) k hk);have:=hy i hi;rw[yA f P y _ hi] at this;grind
theorem Good.ex {d:Day} {f:Nat→Nat} {P:Nat→Prop} (hg:Good d f P):∃ h:Nat→Rat,∀ i,i<d.n→h i=d.into (d.l f P h) i:=by
 obtain⟨x,hx⟩:=Br hg.big;exact⟨x,(EP hg.ok f P x).1 hx⟩
theorem Good.uniq {d:Day} {f:Nat→Nat} {P:Nat→Prop} (hg:Good d f P) {h h':Nat→Rat} (e:∀ i,i<d.n→h i=d.into (d.l f P h) i) (e':∀ i,i<d.n→h' i=d.into (d.l f P h') i):∀ i,i<d.n→h i=h' i:=by
 obtain⟨g,hi⟩:=hg.inv;exact B5 hi hg.ok hg.fallen hg.open' e e'
noncomputable def Day.lst (d:Day) (f:Nat→Nat) (P:Nat→Prop):Nat→Rat:=if h:∃ x:Nat→Rat,∀ i,i<d.n→x i=d.into (d.l f P x) i then abR h else fun _=>0
theorem Good.lst {d:Day} {f:Nat→Nat} {P:Nat→Prop} (hg:Good d f P):∀ i,i<d.n→d.lst f P i=d.into (d.l f P (d.lst f P)) i:=by
 have h:=hg.ex;unfold Day.lst;rw[dif_pos h];exact abT h
theorem Bs {l:List Nat} {a k:Nat} (h:k<l.length):(l++[a]).getD k 0=l.getD k 0:=by
 rw[abX,abX,acP h]
theorem Kk (l:List Nat) (a:Nat) (F:Nat→Rat):sumQ (l++[a]).length (fun k=>F ((l++[a]).getD k 0))=sumQ l.length (fun k=>F (l.getD k 0))+F a:=by
 rw[List.length_append,List.length_singleton,sumQ]
 congr 1
 ·refine bR fun k hk=>?_
  rw[Bs hk]
 ·rw[abX,acQ (abL _),abQ];rfl
noncomputable def payers (P:Nat→Prop) (n:Nat):List Nat:=(abS n).filter fun i=>decide (P i)
theorem sP (P:Nat→Prop) (F:Nat→Rat):∀ n,sumQ (payers P n).length (fun k=>F ((payers P n).getD k 0))=sumQ n fun k=>if P k then F k else 0
 | 0=>rfl
 | n+1=>by
  have ih:=sP P F n;unfold payers at ih ⊢;rw[List.range_succ,List.filter_append]
  by_cases hP:P n
  ·rw[List.filter_cons_of_pos (by simpa using hP),adh,Kk,ih,sumQ,if_pos hP]
  ·rw[List.filter_cons_of_neg (by simpa using hP),adh,List.append_nil,ih,sumQ,if_neg hP,adg]
theorem gw {P:Nat→Prop} {n k:Nat} (h:k<(payers P n).length):(payers P n).getD k 0<n∧P ((payers P n).getD k 0):=by
 have hm:(payers P n).getD k 0∈payers P n:=by
  rw[abX,abY h];exact abZ h
 unfold payers at hm ⊢;rw[abU,abV,decide_eq_true_eq] at hm;exact hm
noncomputable def Day.smallM (d:Day) (f:Nat→Nat) (p:List Nat):Mat:=fun i k=>if k<p.length then (if i=k then 1 else 0)-d.W f (p.getD k 0) (p.getD i 0) else d.st f (p.getD i 0)-d.U (p.getD i 0) (f (p.getD i 0))
theorem wo {d:Day} (f:Nat→Nat) (p:List Nat) (x:Nat→Rat) (z:Rat) {i:Nat} (hi:i<p.length):kA p.length (d.smallM f p i) (ext p.length x z)=x i-(sumQ p.length fun k=>d.W f (p.getD k 0) (p.getD i 0)*x k)+(d.st f (p.getD i 0)-d.U (p.getD i 0) (f (p.getD i 0)))*z:=by
 rw[p8]
 congr 1
 ·have e:=iW (n:=p.length) (f:=fun k=>if i=k then x k else 0) (j:=i) hi fun k _ hk=>if_neg (Ne.symm hk)
  rw[if_pos rfl] at e;rw[←e,←nP];refine bR fun k hk=>?_
  unfold Day.smallM;rw[if_pos hk]
  split<;>grind
 ·unfold Day.smallM
  rw[if_neg (by omega)]
theorem Good.small {d:Day} {f:Nat→Nat} {P:Nat→Prop} (hg:Good d f P):¬ Sing (payers P d.n).length (d.smallM f (payers P d.n)):=by
 rintro⟨y,hy,k,hk,hne⟩
 have h1:∀ r,r<(payers P d.n).length→y r=sumQ (payers P d.n).length fun k=>d.W f ((payers P d.n).getD k 0) ((payers P d.n).getD r 0)*y k:=fun r hr=>by
  have:=hy r hr;rw[wo f _ y _ hr] at this;grind
 have h2:=hg.hom (x:=fun i=>sumQ (payers P d.n).length fun k=>d.W f ((payers P d.n).getD k 0) i*y k) (fun i hi=>by
  rw[←sP P (fun k=>d.W f k i*sumQ (payers P d.n).length fun k'=>d.W f ((payers P d.n).getD k' 0) k*y k') d.n];exact bR fun r hr=>by rw[h1 r hr]) ((payers P d.n).getD k 0) (gw hk).1
 refine hne ?_;rw[h1 k hk];exact h2
theorem Good.small_sol {d:Day} {f:Nat→Nat} {P:Nat→Prop} (hg:Good d f P):Ann (payers P d.n).length (d.smallM f (payers P d.n)) (ext (payers P d.n).length (fun k=>d.lst f P ((payers P d.n).getD k 0)-d.U ((payers P d.n).getD k 0) (f ((payers P d.n).getD k 0))) (-1)):=by
 intro r hr;rw[wo f _ _ _ hr,sP P (fun k=>d.W f k ((payers P d.n).getD r 0)*(d.lst f P k-d.U k (f k))) d.n];have:=hg.lst _ (gw hr).1;rw[hg.ok.into_l] at this;grind
theorem Good.lst_pay {d:Day} {f:Nat→Nat} {P:Nat→Prop} (hg:Good d f P) {i:Nat} (hi:i<d.n):d.lst f P i=d.st f i+sumQ (payers P d.n).length fun k=>d.W f ((payers P d.n).getD k 0) i*(d.lst f P ((payers P d.n).getD k 0)-d.U ((payers P d.n).getD k 0) (f ((payers P d.n).getD k 0))):=by
 rw[sP P (fun k=>d.W f k i*(d.lst f P k-d.U k (f k))) d.n,←hg.ok.into_l];exact hg.lst i hi
theorem Pay.good {d:Day} (hd:d.OK) {f:Nat→Nat} {g:Nat→Rat} (hi:Inv d f g) {P:Nat→Prop} {h:Nat→Rat} (hp:Pay d f g P h):Good d f P:=⟨hd,⟨g,hi⟩,hp.fallen,hp.open'⟩
theorem Good.none {d:Day} (hd:d.OK) {f:Nat→Nat} {g:Nat→Rat} (hi:Inv d f g):Good d f fun _=>False:=⟨hd,⟨g,hi⟩,fun _ h=>h.elim,fun _ ⟨i,h⟩ h'=>(h' i h).elim⟩
theorem Pay.first {d:Day} (hd:d.OK) {f:Nat→Nat} {g:Nat→Rat} (hi:Inv d f g):Pay d f g (fun _=>False) (d.lst f fun _=>False):=Pay.start hd hi (Good.none hd hi).lst
theorem Pay.succ {d:Day} (hd:d.OK) {f:Nat→Nat} {g:Nat→Rat} (hi:Inv d f g) {P:Nat→Prop} {h:Nat→Rat} (hp:Pay d f g P h):Pay d f g (li d f P h) (d.lst f (li d f P h)):=hp.next hd hi (Good.lst ⟨hd,⟨g,hi⟩,hp.next_fallen,hp.next_open hd hi⟩)
noncomputable def idle (d:Day) (P:Nat→Prop):Nat:=kq d.n fun i=>if P i then 0 else 1
theorem EN {d:Day} {f:Nat→Nat} {P:Nat→Prop} {h:Nat→Rat} {i:Nat} (hi:i<d.n) (hf:f i<10) (hU:d.U i (f i)<h i) (hP:¬ P i):idle d (li d f P h)<idle d P:=by
 refine xu (j:=i) (fun j _=>?_) hi ?_
 ·by_cases hj:P j
  ·have h1:li d f P h j:=Or.inl hj
   rw[if_pos h1,if_pos hj];exact abL _
  ·rw[if_neg hj];split<;>omega
 ·have h1:li d f P h i:=Or.inr ⟨hi,hf,hU⟩
  rw[if_pos h1,if_neg hP];omega
theorem Pay.top {d:Day} (hd:d.OK) {f:Nat→Nat} {g:Nat→Rat} (hi:Inv d f g):∀ m (P:Nat→Prop) (h:Nat→Rat),idle d P≤m→Pay d f g P h→∃ h,IsTop d f h
 | m,P,h,hm,hp=>by
  by_cases hs:∀ i,i<d.n→f i<10→d.U i (f i)<h i→P i
  ·exact⟨h,g,hi,hp.stop hd hi hs,hp.le⟩
  ·have⟨i,h1,h2,h3,h4⟩:∃ i,i<d.n∧f i<10∧d.U i (f i)<h i∧¬ P i:=by
    apply abM;intro hn;exact hs fun i h1 h2 h3=>abM fun h4=>hn ⟨i,h1,h2,h3,h4⟩
   have hlt:=EN (h:=h) h1 h2 h3 h4
   cases m with
   | zero=>omega
   | succ m=>exact Pay.top hd hi m _ _ (by omega) (hp.succ hd hi)
theorem OH {d:Day} (hd:d.OK) {f:Nat→Nat} (hr:Reach d f):∃ h,IsTop d f h:=by
 obtain⟨g,hi,-⟩:=hr;exact Pay.top hd hi _ _ _ (abL _) (Pay.first hd hi)
theorem Pay.is_top {d:Day} (hd:d.OK) {f:Nat→Nat} {g:Nat→Rat} (hi:Inv d f g) {P:Nat→Prop} {h:Nat→Rat} (hp:Pay d f g P h) (hs:∀ i,i<d.n→f i<10→d.U i (f i)<h i→P i):∀ i,i<d.n→h i=d.top f i :=
 have ht:IsTop d f h:=⟨g,hi,hp.stop hd hi hs,hp.le⟩
 ht.unique hd (Day.top_spec ⟨h,ht⟩)
end Go.Mini
