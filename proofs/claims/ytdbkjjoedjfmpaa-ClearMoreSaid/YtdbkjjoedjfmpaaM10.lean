/- A part of the proof. -/
import Derived.Test.YtdbkjjoedjfmpaaM09
set_option linter.unusedSimpArgs false
set_option linter.unusedVariables false
open Rat renaming zero_mul → acd, le_refl → ace, le_trans → acf, mul_pos → acg, mul_zero → aci, intCast_add → acv, intCast_sub → acA, one_mul → acB, intCast_mul → acJ, intCast_eq_zero_iff → adn, divInt → ado, divInt_eq_div → adp, neg_num → adu, mul_comm → adw, zero_add → adz, natCast_eq_zero_iff → adB, mul_add → adC, intCast_natCast → adE, zero_den → adG, zero_num → adH, add_zero → adK, natCast_mul → adN
open Classical renaming byContradiction → ach, choose → acl, choose_spec → acn
open Nat renaming le_refl → acj, sub_self → ack, lt_or_ge → acC, mul_le_mul → acL, succ_mul → acM, mul_assoc → acN, mul_left_comm → acQ, pow_succ → acR, mul_comm → acS, mul_le_mul_right → acT, add_zero → ac3, zero_add → adf, pow_le_pow_right → adl, le_trans → adm, eq_zero_or_pos → adr, pow_add → ads, add_comm → adt, one_le_two_pow → adF, zero_le → adJ, one_pos → adM
open List renaming range → acm, mem_filter → aco, mem_range → acp, getD_eq_getElem?_getD → acr, getElem?_eq_getElem → acs, getElem_mem → act, map_cons → acu, mem_cons_self → acw, mem_cons_of_mem → acx, length_cons → acy, cons_append → acz, append_assoc → acD, nil_append → acE, append_of_mem → acF, map_append → acG, map_nil → acH, map_map → acI, mem_append → acO, mem_cons → acP, getElem?_map → acU, getElem?_range → acV, ext_getElem? → acW, getElem?_eq_none → acX, zipWith → acY, zip_cons_cons → acZ, zipWith_cons_cons → ac0, mem_map → ac2, getElem?_cons_zero → ac4, any_eq_false → ac6, length_map → ac7, length_set → ac9, getElem?_set → ada, getElem_drop → adb, length_drop → adc, findIdx_getElem → ade, length_nil → adg, mem_of_getElem? → adi, getElem?_append_left → adj, getElem?_append_right → adk, mem_map_of_mem → adx, count_cons_self → ady, sum_cons → adA, count_cons → adD, filter_nil → adL
open Bool renaming and_eq_true → acq, or_false → ac1, or_eq_true → ac5, not_eq_true' → adh
open Int renaming natAbs_mul → acK, natAbs_natCast → adq, mul_ne_zero → adv, zero_mul → adI
open Option renaming map_some → ac8
namespace Go.Mini
open Classical
noncomputable def Day.pay (d:Day) (h:Nat→Rat) (c:Cl):Rat:=if d.U c.fr (c.rk+1)≤h c.fr then c.am else d.w c*pos (h c.fr-d.U c.fr c.rk)
theorem Day.OK.w_le {d:Day} (hd:d.OK) {c:Cl} (hc:c∈d.cl) {x:Rat} (h:x≤d.S c.fr c.rk):d.w c*x≤c.am:=by
 have h0:=hd.am c hc;have h1:=hd.am_le hc
 by_cases hS:0<d.S c.fr c.rk
 ·have:=fU (hd.w_nonneg hc) h
  rw[Day.w_S hS] at this;exact this
 ·rw[Day.w_zero (by grind),acd];exact h0
theorem Day.OK.pay_le {d:Day} (hd:d.OK) (h:Nat→Rat) {c:Cl} (hc:c∈d.cl):d.pay h c≤c.am:=by
 unfold Day.pay
 split
 ·exact ace
 ·rename_i hn
  refine hd.w_le hc ?_;rw[d.U_succ] at hn;have:=hd.S_nonneg c.fr c.rk;unfold pos
  split<;>grind
theorem Day.OK.pay_nonneg {d:Day} (hd:d.OK) (h:Nat→Rat) {c:Cl} (hc:c∈d.cl):0≤d.pay h c:=by
 unfold Day.pay
 split
 ·exact hd.am c hc
 ·exact dz (hd.w_nonneg hc) (iv _)
theorem Day.OK.pay_mono {d:Day} (hd:d.OK) {h h':Nat→Rat} {c:Cl} (hc:c∈d.cl) (hle:h c.fr≤h' c.fr):d.pay h c≤d.pay h' c:=by
 by_cases h1:d.U c.fr (c.rk+1)≤h' c.fr
 ·have:=hd.pay_le h hc
  unfold Day.pay at this ⊢;rw[if_pos h1];exact this
 ·unfold Day.pay
  rw[if_neg h1,if_neg (by grind)];exact fU (hd.w_nonneg hc) (p7 (by grind))
theorem Day.OK.q_nonneg {d:Day} (hd:d.OK) (f:Nat→Nat) (h:Nat→Rat) {c:Cl} (hc:c∈d.cl):0≤d.q f h c:=by
 unfold Day.q
 split
 ·exact hd.am c hc
 ·split
  ·exact dz (hd.w_nonneg hc) (iv _)
  ·exact ace
theorem Day.OK.into_nonneg {d:Day} (hd:d.OK) {a:Cl→Rat} (h:∀ c∈d.cl,0≤a c) {i:Nat} (hi:i<d.n):0≤d.into a i:=by
 unfold Day.into;have h1:=hd.cash i hi
 have:=dZ (l:=d.cl) (F:=fun c=>if c.to=(i:Int) then a c else 0) fun c hc=>by
  try dsimp only
  split
  ·exact h c hc
  ·exact ace
 grind
theorem Day.OK.q_mono {d:Day} (hd:d.OK) {f:Nat→Nat} {h g:Nat→Rat} {c:Cl} (hc:c∈d.cl) (hle:h c.fr≤g c.fr):d.q f h c≤d.q f g c:=by
 unfold Day.q
 split
 ·exact ace
 ·split
  ·exact fU (hd.w_nonneg hc) (p7 (by grind))
  ·exact ace
def C4 (d:Day) (f:Nat→Nat) (h:Nat→Rat) (f':Nat→Nat):Prop:=(∀ i,f' i≤10)∧(∀ i,i<d.n→h i<d.U i (f i)→f' i<f i∧d.U i (f' i)≤h i∧h i<d.U i (f' i+1))∧∀ i,i<d.n→d.U i (f i)≤h i→f' i=f i
theorem Cc {d:Day} (hd:d.OK) {f f':Nat→Nat} {h:Nat→Rat} (hf:C4 d f h f') {c:Cl} (hc:c∈d.cl):d.q f' h c≤d.q f h c:=by
 obtain⟨-,h1,h2⟩:=hf;have hfr:=hd.fr c hc
 by_cases hF:h c.fr<d.U c.fr (f c.fr)
 ·obtain⟨k1,k2,k3⟩:=h1 _ hfr hF
  unfold Day.q
  by_cases r1:c.rk<f' c.fr
  ·rw[if_pos r1,if_pos (by omega)];exact ace
  ·rw[if_neg r1]
   by_cases r2:c.rk=f' c.fr
   ·rw[if_pos r2,if_pos (by omega)]
    rw[←r2] at k2 k3;rw[d.U_succ] at k3;exact hd.w_le hc (by rw[lz (by grind)];grind)
   ·rw[if_neg r2]
    exact hd.q_nonneg f h hc
 ·have:=h2 _ hfr (by grind)
  unfold Day.q;rw[this];exact ace
theorem Inv.fall {d:Day} (hd:d.OK) {f f':Nat→Nat} {g h:Nat→Rat} (hi:Inv d f g) (hfix:∀ i,i<d.n→h i=d.into (d.q f h) i) (hle:∀ i,i<d.n→h i≤g i) (hf:C4 d f h f'):Inv d f' h:=by
 have hlo:∀ i,i<d.n→f' i<10→d.U i (f' i)≤h i:=by
  intro i hin hf1
  by_cases hF:h i<d.U i (f i)
  ·exact (hf.2.1 i hin hF).2.1
  ·rw[hf.2.2 i hin (by grind)];grind
 have hhi:∀ i,i<d.n→f' i<10→h i<d.U i (f' i+1):=by
  intro i hin hf1
  by_cases hF:h i<d.U i (f i)
  ·exact (hf.2.1 i hin hF).2.2
  ·have e:=hf.2.2 i hin (by grind)
   rw[e] at hf1 ⊢;have:=hi.hi i hin hf1;have:=hle i hin;grind
 have hS:∀ i,i<d.n→f' i<10→0<d.S i (f' i):=by
  intro i hin hf1;have h1:=hlo i hin hf1;have h2:=hhi i hin hf1;rw[d.U_succ] at h2;grind
 refine⟨hf.1,fun i hin=>?_,hlo,hhi,fun C h1 h2 h3=>?_⟩
 ·exact acf (d.into_le (fun c hc=>Cc hd hf hc) i) (js (hfix i hin).symm)
 ·have hC:∀ i,C i→i<d.n:=fun i hc=>(h2 i hc).1
  by_cases hex:∃ k,C k∧h k<d.U k (f k)
  ·obtain⟨k0,hk0,hF⟩:=hex
   have hk0n:=hC k0 hk0;obtain⟨b1,b2,b3⟩:=hf.2.1 k0 hk0n hF;have hs0:=hS k0 hk0n (h2 k0 hk0).2;obtain⟨c0,hc0,hp0⟩:=t9 hs0
   have hc0':c0.fr=k0∧c0.rk=f' k0∧0<c0.am:=by
    by_cases hh:c0.fr=k0∧c0.rk=f' k0
    ·rw[if_pos hh] at hp0;exact⟨hh.1,hh.2,hp0⟩
    ·rw[if_neg hh] at hp0;exact absurd hp0 (by grind)
   obtain⟨a1,a2,a3⟩:=hc0';have e1:=Day.sumIn_into hC (d.q f h);have e2:=Day.sumIn_into hC (d.q f' (d.cap f' h C));have e3:d.sumIn C (d.into (d.q f h))=d.sumIn C h:=Day.sumIn_congr fun i hin _=>(hfix i hin).symm
   have e4:=hd.sum_fr C f' (fun k hk=>hS k (hC k hk) (h2 k hk).2) fun k=>h k-d.U k (f' k)
   have e5:d.sumIn C (fun k=>h k-d.U k (f' k))=sumQ d.n fun k=>if C k then h k-d.U k (f' k) else 0:=rfl
   rw[←e5,d.sumIn_sub] at e4
   have e6:sumC d.cl (fun c=>(if inC C c then d.q f' (d.cap f' h C) c else 0)+(if C c.fr∧c.rk=f' c.fr then d.w c*(h c.fr-d.U c.fr (f' c.fr)) else 0))<sumC d.cl (fun c=>if inC C c then d.q f h c else 0):=by
    refine K0 (fun c hc=>?_) hc0 ?_
    ·have hfr:=hd.fr c hc
     by_cases hin:inC C c
     ·rw[if_pos hin,if_pos hin]
      by_cases hcC:C c.fr
      ·rw[mh hcC]
       by_cases r1:c.rk<f' c.fr
       ·rw[if_pos r1,if_neg (by omega)]
        have:c.rk<f c.fr:=by
         by_cases hF:h c.fr<d.U c.fr (f c.fr)
         ·have:=(hf.2.1 _ hfr hF).1;omega
         ·rw[←hf.2.2 _ hfr (by grind)];exact r1
        unfold Day.q;rw[if_pos this];grind
       ·rw[if_neg r1]
        by_cases r2:c.rk=f' c.fr
        ·rw[if_pos ⟨hcC,r2⟩]
         by_cases hF:h c.fr<d.U c.fr (f c.fr)
         ·obtain⟨k1,k2,k3⟩:=hf.2.1 _ hfr hF
          unfold Day.q;rw[if_pos (by omega)];rw[d.U_succ] at k3;have:=hd.w_le hc (x:=h c.fr-d.U c.fr (f' c.fr)) (by rw[r2];grind);grind
         ·have e:=hf.2.2 _ hfr (by grind)
          rw[e] at r1 r2 ⊢;unfold Day.q;rw[if_neg r1,if_pos r2,←r2];have:=fU (hd.w_nonneg hc) (yz (h c.fr-d.U c.fr c.rk));grind
        ·rw[if_neg fun h=>r2 h.2]
         have:=hd.q_nonneg f h hc;grind
      ·rw[l9 hcC,if_neg fun h=>hcC h.1]
       have:=Cc hd hf hc;grind
     ·rw[if_neg hin,if_neg hin]
      by_cases hcC:C c.fr∧c.rk=f' c.fr
      ·rw[if_pos hcC]
       have:c.am=0:=by
        have h0:=hd.am c hc
        by_cases hp:0<c.am
        ·exact absurd (h3 c hc hcC.1 hcC.2 hp) hin
        ·grind
       rw[Day.w_zero this];grind
      ·rw[if_neg hcC];grind
    ·have hcC:C c0.fr:=by rw[a1];exact hk0
     have hrk:c0.rk=f' c0.fr:=by rw[a1];exact a2
     have hin:=h3 c0 hc0 hcC hrk a3;rw[if_pos hin,if_pos hin,mh hcC,if_neg (by omega),if_pos ⟨hcC,hrk⟩];unfold Day.q;rw[if_pos (by rw[a1];omega)];have hw:=hd.w_pos hc0 a3;have hws:=d.w_S (c:=c0) (by rw[a1,a2];exact hs0);rw[d.U_succ] at b3;rw[←a1,←hrk] at b3;rw[←hrk];have:0<d.w c0*(d.S c0.fr c0.rk-(h c0.fr-d.U c0.fr c0.rk)):=acg hw (by rw[a1] at b3 ⊢;grind);grind
   rw[qv,e4] at e6;grind
  ·have hsame:∀ k,C k→f' k=f k:=fun k hk=>hf.2.2 k (hC k hk) (by
    apply ach;intro hn;exact hex ⟨k,hk,by grind⟩)
   have k1:=hi.cl C h1 (fun i hc=>⟨hC i hc,by rw[←hsame i hc];exact (h2 i hc).2⟩) (fun c hc hcC hrk ham=>h3 c hc hcC (by rw[hsame _ hcC];exact hrk) ham);have k2:d.sumIn C (fun i=>d.U i (f' i))=d.sumIn C fun i=>d.U i (f i):=Day.sumIn_congr fun i _ hc=>by rw[hsame i hc]
   rw[k2]
   have k3:d.sumIn C (d.into (d.q f' (d.cap f' h C)))≤d.sumIn C (d.into (d.q f (d.cap f g C))):=by
    refine Day.sumIn_le fun i _ _=>d.into_le (fun c hc=>?_) i
    by_cases hcC:C c.fr
    ·rw[mh hcC,mh hcC,hsame _ hcC];exact ace
    ·rw[l9 hcC,l9 hcC]
     exact acf (Cc hd hf hc) (hd.q_mono hc (hle _ (hd.fr c hc)))
   grind
noncomputable def Day.phi (d:Day) (h:Nat→Rat) (i:Nat):Rat:=d.into (d.pay h) i
theorem Jn {d:Day} (hd:d.OK) {f:Nat→Nat} {g z:Nat→Rat} (hi:Inv d f g) (hz:∀ i,i<d.n→z i≤g i) {c:Cl} (hc:c∈d.cl):d.pay z c≤d.q f z c:=by
 have hfr:=hd.fr c hc;have hrk:=hd.rk c hc;unfold Day.q
 by_cases r1:c.rk<f c.fr
 ·rw[if_pos r1];exact hd.pay_le z hc
 ·rw[if_neg r1]
  have h10:f c.fr<10:=by omega
  have h1:=hi.hi _ hfr h10;have h2:=hz _ hfr
  by_cases r2:c.rk=f c.fr
  ·rw[if_pos r2]
   unfold Day.pay;rw[if_neg (by rw[r2];grind)];exact ace
  ·rw[if_neg r2]
   have h3:=hd.U_mono c.fr (r:=f c.fr+1) (s:=c.rk) (by omega);have h4:=hd.U_mono c.fr (r:=c.rk) (s:=c.rk+1) (by omega);unfold Day.pay;rw[if_neg (by grind),im (by grind),aci];exact ace
theorem Inv.above {d:Day} (hd:d.OK) {f:Nat→Nat} {g h z:Nat→Rat} (hi:Inv d f g) (hfix:∀ i,i<d.n→h i=d.into (d.q f h) i) (hle:∀ i,i<d.n→h i≤g i) (hz:∀ i,i<d.n→z i≤d.into (d.q f z) i):∀ i,i<d.n→z i≤h i:=by
 intro i0 hi0;apply ach;intro hneg;obtain⟨C,hCd⟩:∃ C:Nat→Prop,∀ i,C i↔i<d.n∧h i<z i:=⟨fun i=>i<d.n∧h i<z i,fun _=>Iff.rfl⟩
 obtain⟨Cf,hFd⟩:∃ C':Nat→Prop,∀ i,C' i↔C i∧f i<10:=⟨fun i=>C i∧f i<10,fun _=>Iff.rfl⟩
 have hC:∀ i,C i→i<d.n:=fun i h=>((hCd i).1 h).1
 have hCl:∀ i,C i→h i<z i:=fun i h=>((hCd i).1 h).2
 have hne:∃ i,C i:=⟨i0,(hCd i0).2 ⟨hi0,by grind⟩⟩
 have e1:=BW C hC d.cl fun c=>d.q f z c-d.q f h c
 have e2:=hd.sum_fr Cf f (fun k hk=>hi.S_pos (hC k ((hFd k).1 hk).1) ((hFd k).1 hk).2) fun k=>z k-h k
 have e3:d.sumIn C (fun i=>z i-h i)≤sumQ d.n fun i=>if C i then sumC d.cl (fun c=>if c.to=(i:Int) then d.q f z c-d.q f h c else 0) else 0:=by
  refine pX fun k hk=>?_
  by_cases hc:C k
  ·rw[if_pos hc,if_pos hc,←d.into_sub,←hfix k hk]
   have h1:=hz k hk;grind
  ·rw[if_neg hc,if_neg hc];exact ace
 rw[e1] at e3
 have e4:sumQ d.n (fun k=>if Cf k then z k-h k else 0)≤d.sumIn C (fun i=>z i-h i):=by
  refine pX fun k hk=>?_
  by_cases hc:C k
  ·rw[if_pos hc]
   have:=hCl k hc
   split<;>grind
  ·rw[if_neg hc,if_neg fun h=>hc ((hFd k).1 h).1];exact ace
 have hpt:∀ c∈d.cl,0≤(if Cf c.fr∧c.rk=f c.fr then d.w c*(z c.fr-h c.fr) else 0)-(if inC C c then d.q f z c-d.q f h c else 0):=by
  intro c hc;have hw:=hd.w_nonneg hc;have hfr:=hd.fr c hc;have hrk:=hd.rk c hc
  by_cases h1:Cf c.fr∧c.rk=f c.fr
  ·rw[if_pos h1]
   have h2:0≤d.w c*(z c.fr-h c.fr):=dz hw (by have:=hCl _ ((hFd _).1 h1.1).1;grind)
   have h3:d.q f z c-d.q f h c≤d.w c*(z c.fr-h c.fr):=by
    unfold Day.q;rw[if_neg (by omega),if_pos h1.2,if_neg (by omega),if_pos h1.2]
    have h4:pos (z c.fr-d.U c.fr c.rk)-pos (h c.fr-d.U c.fr c.rk)≤z c.fr-h c.fr:=by
     have:=hCl _ ((hFd _).1 h1.1).1;unfold pos
     split<;>split<;>grind
    have:=fU hw h4;grind
   split<;>grind
  ·rw[if_neg h1]
   have h3:d.q f z c-d.q f h c≤0:=by
    unfold Day.q
    by_cases r1:c.rk<f c.fr
    ·rw[if_pos r1,if_pos r1];grind
    ·rw[if_neg r1,if_neg r1]
     by_cases r2:c.rk=f c.fr
     ·rw[if_pos r2,if_pos r2]
      have h4:z c.fr≤h c.fr:=by
       apply ach;intro hn;exact h1 ⟨(hFd _).2 ⟨(hCd _).2 ⟨hfr,by grind⟩,by omega⟩,r2⟩
      have:=fU hw (p7 (show z c.fr-d.U c.fr c.rk≤h c.fr-d.U c.fr c.rk by grind));grind
     ·rw[if_neg r2,if_neg r2];grind
   split<;>grind
 have hnull:=rP hpt (by rw[nE,e2];grind)
 have hCC:∀ k,C k→f k<10:=by
  have:sumQ d.n (fun k=>(if C k then z k-h k else 0)-(if Cf k then z k-h k else 0))≤0:=by
   rw[n8];have:0≤sumC d.cl fun c=>(if Cf c.fr∧c.rk=f c.fr then d.w c*(z c.fr-h c.fr) else 0)-(if inC C c then d.q f z c-d.q f h c else 0):=dZ hpt
   rw[nE,e2] at this;have h5:d.sumIn C (fun i=>z i-h i)=sumQ d.n fun k=>if C k then z k-h k else 0:=rfl
   grind
  have hn:=FM (fun k hk=>by
   try dsimp only
   by_cases hc:C k
   ·rw[if_pos hc]
    have:=hCl k hc
    split<;>grind
   ·rw[if_neg hc,if_neg fun h=>hc ((hFd k).1 h).1];grind) this
  intro k hk;apply ach;intro h10;have:=hn k (hC k hk)
  try dsimp only at this
  rw[if_pos hk,if_neg fun h=>h10 ((hFd k).1 h).2] at this
  have:=hCl k hk;grind
 have hin:∀ c∈d.cl,C c.fr→c.rk=f c.fr→0<c.am→inC C c∧d.U c.fr c.rk≤h c.fr:=by
  intro c hc hcC hrk ham;have h0:=hnull c hc;have hw:=hd.w_pos hc ham;have hlt:=hCl _ hcC
  try dsimp only at h0
  rw[if_pos ⟨(hFd _).2 ⟨hcC,hCC _ hcC⟩,hrk⟩] at h0
  by_cases hin:inC C c
  ·refine⟨hin,?_⟩
   rw[if_pos hin] at h0;unfold Day.q at h0;rw[if_neg (by omega),if_pos hrk,if_neg (by omega),if_pos hrk] at h0;apply ach;intro hn;rw[im (x:=h c.fr-d.U c.fr c.rk) (by grind)] at h0
   have h4:0<z c.fr-h c.fr-pos (z c.fr-d.U c.fr c.rk):=by
    unfold pos
    split<;>grind
   have:=acg hw h4;grind
  ·rw[if_neg hin] at h0
   have:0<d.w c*(z c.fr-h c.fr):=acg hw (by grind);grind
 have hU:∀ k,C k→d.U k (f k)≤h k:=by
  intro k hk;have hs:=hi.S_pos (hC k hk) (hCC k hk);obtain⟨c0,hc0,hp0⟩:=t9 hs
  by_cases hh:c0.fr=k∧c0.rk=f k
  ·rw[if_pos hh] at hp0
   have:=(hin c0 hc0 (by rw[hh.1];exact hk) (by rw[hh.1];exact hh.2) hp0).2
   rwa [hh.1,hh.2] at this
  ·rw[if_neg hh] at hp0;exact absurd hp0 (by grind)
 have hfl:=hi.flow hd hne (fun i hc=>⟨hC i hc,hCC i hc⟩) (fun c hc hcC hrk ham=>(hin c hc hcC hrk ham).1) (d.q f h) (fun k=>h k-d.U k (f k)) (fun k _ hk=>by have:=hU k hk;grind) fun c hc _=>by
  by_cases hcC:C c.fr
  ·rw[mh hcC]
   unfold Day.q
   by_cases r1:c.rk<f c.fr
   ·rw[if_pos r1,if_pos r1,if_neg (by omega)];grind
   ·rw[if_neg r1,if_neg r1]
    by_cases r2:c.rk=f c.fr
    ·rw[if_pos r2,if_pos ⟨hcC,r2⟩,r2,lz (by have:=hU _ hcC;grind)];grind
    ·rw[if_neg r2,if_neg fun h=>r2 h.2];grind
  ·rw[l9 hcC,if_neg fun h=>hcC h.1]
   have:=hd.q_mono (f:=f) hc (hle _ (hd.fr c hc));grind
 have h6:d.sumIn C (d.into (d.q f h))=d.sumIn C h:=Day.sumIn_congr fun i hin _=>(hfix i hin).symm
 have h7:d.sumIn C (fun i=>d.U i (f i)+(h i-d.U i (f i)))=d.sumIn C h:=Day.sumIn_congr fun i _ _=>by grind
 rw[h6,h7] at hfl;exact absurd hfl (by grind)
theorem Inv.final {d:Day} (hd:d.OK) {f:Nat→Nat} {g h:Nat→Rat} (hi:Inv d f g) (hfix:∀ i,i<d.n→h i=d.into (d.q f h) i) (hle:∀ i,i<d.n→h i≤g i) (hno:∀ i,i<d.n→d.U i (f i)≤h i):(∀ i,i<d.n→h i=d.phi h i)∧∀ i,i<d.n→(f i<10↔h i<d.U i 10):=by
 constructor
 ·intro i hin
  rw[hfix i hin];unfold Day.phi;have:∀ j,j<d.n→h j=d.into (d.q f h) j:=hfix;refine d.into_congr (fun c hc=>?_) i;have hfr:=hd.fr c hc;have hrk:=hd.rk c hc;have h0:=hno _ hfr;unfold Day.q Day.pay
  by_cases r1:c.rk<f c.fr
  ·have:=hd.U_mono c.fr (r:=c.rk+1) (s:=f c.fr) (by omega)
   rw[if_pos r1,if_pos (by grind)]
  ·rw[if_neg r1]
   have h10:f c.fr<10:=by omega
   have h1:=hi.hi _ hfr h10;have h2:=hle _ hfr
   by_cases r2:c.rk=f c.fr
   ·rw[if_pos r2,if_neg (by rw[r2];grind)]
   ·have h3:=hd.U_mono c.fr (r:=f c.fr+1) (s:=c.rk) (by omega)
    have h4:=hd.U_mono c.fr (r:=c.rk) (s:=c.rk+1) (by omega);rw[if_neg r2,if_neg (by grind),im (by grind),aci]
 ·intro i hin
  constructor
  ·intro h10
   have h1:=hi.hi _ hin h10;have h2:=hle _ hin;have h3:=hd.U_mono i (r:=f i+1) (s:=10) (by omega);grind
  ·intro h1
   apply ach;intro h2;have h3:=hi.le i;have h4:f i=10:=by omega
   have h5:=hno i hin;rw[h4] at h5;grind
end Go.Mini
namespace Go.Mini
open Classical
def IsTop (d:Day) (f:Nat→Nat) (h:Nat→Rat):Prop:=∃ g,Inv d f g∧(∀ i,i<d.n→h i=d.into (d.q f h) i)∧∀ i,i<d.n→h i≤g i
theorem IsTop.unique {d:Day} (hd:d.OK) {f:Nat→Nat} {h h':Nat→Rat} (a:IsTop d f h) (b:IsTop d f h'):∀ i,i<d.n→h i=h' i:=by
 obtain⟨g,h1,h2,h3⟩:=a;obtain⟨g',k1,k2,k3⟩:=b;intro i hin;have e1:=h1.above hd h2 h3 (z:=h') (fun i hi=>js (k2 i hi)) i hin;have e2:=k1.above hd k2 k3 (z:=h) (fun i hi=>js (h2 i hi)) i hin;grind
noncomputable def Day.fallRank (d:Day) (h:Nat→Rat) (i:Nat):Nat→Nat
 | 0=>10
 | k+1=>if h i<d.U i (10-(k+1)+1) then 10-(k+1) else Day.fallRank d h i k
theorem lI {d:Day} (hd:d.OK) {h:Nat→Rat} {i:Nat}:∀ k,k≤10→d.U i (10-k)≤h i→(d.fallRank h i k=10∧d.U i 10≤h i)∨(10-k≤d.fallRank h i k∧d.fallRank h i k<10∧d.U i (d.fallRank h i k)≤h i∧h i<d.U i (d.fallRank h i k+1))
 | 0,_,h0 => .inl ⟨rfl,h0⟩
 | k+1,hk,h0=>by
  unfold Day.fallRank
  by_cases h1:h i<d.U i (10-(k+1)+1)
  ·rw[if_pos h1];exact .inr ⟨acj _,by omega,h0,h1⟩
  ·rw[if_neg h1]
   rcases lI hd (h:=h) (i:=i) k (by omega) (by rw[show 10-k=10-(k+1)+1 by omega];grind) with e | ⟨e1,e2⟩
   ·exact .inl e
   ·exact .inr ⟨by omega,e2⟩
noncomputable def Day.fallen (d:Day) (f:Nat→Nat) (h:Nat→Rat) (i:Nat):Nat:=if i<d.n∧h i<d.U i (f i) then d.fallRank h i 10 else f i
theorem vI {d:Day} (hd:d.OK) {f:Nat→Nat} {h:Nat→Rat} (hle:∀ i,f i≤10) (h0:∀ i,i<d.n→0≤h i):C4 d f h (d.fallen f h):=by
 have key:∀ i,i<d.n→h i<d.U i (f i)→d.fallRank h i 10<f i∧d.U i (d.fallRank h i 10)≤h i∧h i<d.U i (d.fallRank h i 10+1):=by
  intro i hin hF;have hm:=hd.U_mono i (hle i);rcases lI hd (h:=h) (i:=i) 10 (acj _) (by rw[ack,d.U_zero];exact h0 i hin) with ⟨-,e⟩ | ⟨-,e1,e2,e3⟩
  ·grind
  ·refine⟨?_,e2,e3⟩
   apply ach;intro hn;have:=hd.U_mono i (r:=f i) (s:=d.fallRank h i 10) (by omega);grind
 refine⟨fun i=>?_,fun i hin hF=>?_,fun i hin hF=>?_⟩
 ·unfold Day.fallen
  split
  ·rename_i hh
   have:=(key i hh.1 hh.2).1;have:=hle i;omega
  ·exact hle i
 ·unfold Day.fallen
  rw[if_pos ⟨hin,hF⟩];exact key i hin hF
 ·unfold Day.fallen
  rw[if_neg fun hh=>by have:=hh.2;grind]
theorem IsTop.fall {d:Day} (hd:d.OK) {f:Nat→Nat} {h:Nat→Rat} (a:IsTop d f h):Inv d (d.fallen f h) h:=by
 obtain⟨g,h1,h2,h3⟩:=a;exact h1.fall hd h2 h3 (vI hd h1.le fun i hin=>by rw[h2 i hin];exact hd.into_nonneg (fun c hc=>hd.q_nonneg f h hc) hin)
theorem IsTop.nonneg {d:Day} (hd:d.OK) {f:Nat→Nat} {h:Nat→Rat} (a:IsTop d f h) {i:Nat} (hin:i<d.n):0≤h i:=by
 obtain⟨g,h1,h2,h3⟩:=a;rw[h2 i hin];exact hd.into_nonneg (fun c hc=>hd.q_nonneg f h hc) hin
noncomputable def Day.top (d:Day) (f:Nat→Nat):Nat→Rat:=if h:∃ x,IsTop d f x then acl h else fun _=>0
noncomputable def Day.falls (d:Day) (f:Nat→Nat):List Nat:=(acm d.n).filter fun i=>decide (d.top f i<d.U i (f i))
noncomputable def Day.rounds (d:Day):Nat→(Nat→Nat)→List (List Nat) × (Nat→Nat)
 | 0,f=>([],f)
 | k+1,f=>if d.falls f=[] then ([],f) else (d.falls f::(Day.rounds d k (d.fallen f (d.top f))).1,(Day.rounds d k (d.fallen f (d.top f))).2)
def Reach (d:Day) (f:Nat→Nat):Prop:=∃ g,Inv d f g∧∀ z,(∀ i,i<d.n→z i≤d.phi z i)→∀ i,i<d.n→z i≤g i
theorem Reach.start {d:Day} (hd:d.OK):Reach d fun _=>10:=⟨_,Inv.start hd,fun z hz i hin=>acf (hz i hin) (d.into_le (fun _ hc=>hd.pay_le z hc) i)⟩
def kV:Nat→(Nat→Nat)→Nat
 | 0,_=>0
 | n+1,f=>kV n f+f n
theorem Mu {n:Nat} {f g:Nat→Nat} (h:∀ i,i<n→f i≤g i):kV n f≤kV n g:=by
 induction n with
 | zero=>exact acj _
 | succ n ih =>
  have:=ih fun i hi=>h i (by omega)
  have:=h n (by omega);simp only[kV];omega
theorem yI {n:Nat} {f g:Nat→Nat} (h:∀ i,i<n→f i≤g i) {j:Nat} (hj:j<n) (hlt:f j<g j):kV n f<kV n g:=by
 induction n with
 | zero=>omega
 | succ n ih =>
  have h1:=h n (by omega);simp only[kV]
  by_cases hjn:j=n
  ·subst hjn
   have:=Mu (n:=j) (f:=f) (g:=g) fun i hi=>h i (by omega)
   omega
  ·have:=ih (fun i hi=>h i (by omega)) (by omega)
   omega
theorem Day.top_spec {d:Day} {f:Nat→Nat} (h:∃ x,IsTop d f x):IsTop d f (d.top f):=by
 unfold Day.top;rw[dif_pos h];exact acn h
theorem Day.mem_falls {d:Day} {f:Nat→Nat} {i:Nat}:i∈d.falls f↔i<d.n∧d.top f i<d.U i (f i):=by
 unfold Day.falls;rw[aco,acp,decide_eq_true_eq]
section
variable {d:Day} (hd:d.OK) (hex:∀ f,Reach d f→∃ h,IsTop d f h)
include hd hex
theorem w9 {f:Nat→Nat} (hr:Reach d f) {z:Nat→Rat} (hz:∀ i,i<d.n→z i≤d.phi z i):∀ i,i<d.n→z i≤d.top f i:=by
 obtain⟨g,h1,h2,h3⟩:=Day.top_spec (hex f hr);obtain⟨g',k1,k2⟩:=hr;have ht:IsTop d f (d.top f):=⟨g,h1,h2,h3⟩
 -- the end of the round below g'
 intro i hin;have hz':=fun k hk=>acf (hz k hk) (d.into_le (fun _ hc=>Jn hd k1 (k2 z hz) hc) k)
 exact h1.above hd h2 h3 hz' i hin
theorem Reach.next {f:Nat→Nat} (hr:Reach d f):Reach d (d.fallen f (d.top f)):=⟨d.top f,(Day.top_spec (hex f hr)).fall hd,fun z hz=>w9 hd hex hr hz⟩
theorem rV {f:Nat→Nat} (hr:Reach d f) (hne:d.falls f≠[]):kV d.n (d.fallen f (d.top f))<kV d.n f:=by
 obtain⟨i,hi⟩:=List.exists_mem_of_ne_nil _ hne;obtain⟨h1,h2⟩:=Day.mem_falls.1 hi;have ht:=Day.top_spec (hex f hr);obtain⟨g,k1,-⟩:=ht;have hf:=vI hd k1.le (h:=d.top f) fun i hin=>(Day.top_spec (hex f hr)).nonneg hd hin
 refine yI (fun j hj=>?_) h1 (hf.2.1 i h1 h2).1
 by_cases hF:d.top f j<d.U j (f j)
 ·have:=(hf.2.1 j hj hF).1;omega
 ·rw[hf.2.2 j hj (by grind)];exact acj _
theorem tX:∀ k (f:Nat→Nat),Reach d f→kV d.n f≤k→Reach d (d.rounds k f).2∧d.falls (d.rounds k f).2=[]
 | 0,f,hr,hk=>by
  refine⟨hr,?_⟩;apply ach;intro hne;have:=rV hd hex hr hne;omega
 | k+1,f,hr,hk=>by
  unfold Day.rounds
  by_cases hne:d.falls f=[]
  ·rw[if_pos hne];exact⟨hr,hne⟩
  ·rw[if_neg hne]
   have:=rV hd hex hr hne;exact tX k _ (hr.next hd hex) (by omega)
end
theorem Day.rounds_stop (d:Day) {f:Nat→Nat} (h:d.falls f=[]):∀ k,d.rounds k f=([],f)
 | 0=>rfl
 | k+1=>by unfold Day.rounds;rw[if_pos h]
end Go.Mini
namespace Go.Mini
abbrev ClR:=Int × Int × Int × Int
def eZ (n:Int) (c:ClR):Bool:=decide (0≤c.1)&&decide (c.1<n)&&decide (-1≤c.2.1)&&decide (c.2.1<n)&&decide (0≤c.2.2.1)&&decide (c.2.2.1<10)&&decide (0≤c.2.2.2)&&decide (c.2.2.2≤1000000000000000)
def dh (cash:List Int) (cs:List ClR):Bool:=decide (cash.length≤60)&&decide (cs.length≤2000)&&cash.all (fun x=>decide (0≤x)&&decide (x≤1000000000000000))&&cs.all (eZ cash.length)
def bz (c:ClR):Cl:=⟨c.1.toNat,c.2.1,c.2.2.1.toNat,(c.2.2.2:Rat)⟩
def ab (cash:List Int) (cs:List ClR):Day:=⟨cash.length,fun i=>((cash.getD i 0:Int):Rat),cs.map bz⟩
theorem rightD_iff {cash:List Int} {cs:List ClR}:dh cash cs=true↔cash.length≤60∧cs.length≤2000∧(∀ x∈cash,0≤x∧x≤1000000000000000)∧∀ c∈cs,0≤c.1∧c.1<cash.length ∧ -1≤c.2.1∧c.2.1<cash.length∧0≤c.2.2.1∧c.2.2.1<10∧0≤c.2.2.2∧c.2.2.2≤1000000000000000:=by
 unfold dh eZ;simp only[acq,decide_eq_true_eq,List.all_eq_true,and_assoc]
theorem mw {cash:List Int} {cs:List ClR} (h:dh cash cs=true):(ab cash cs).OK:=by
 obtain⟨-,-,h3,h4⟩:=rightD_iff.1 h
 have hc:∀ x∈(ab cash cs).cl,∃ c∈cs,x=bz c:=fun x hx=>by
  obtain⟨c,hc,rfl⟩:=List.mem_map.1 hx;exact⟨c,hc,rfl⟩
 refine⟨fun x hx=>?_,fun x hx=>?_,fun x hx=>?_,fun x hx=>?_,fun i hi=>?_⟩
 ·obtain⟨c,hc,rfl⟩:=hc x hx
  have:=h4 c hc
  show c.1.toNat<cash.length;omega
 ·obtain⟨c,hc,rfl⟩:=hc x hx
  have:=h4 c hc
  show c.2.1<(cash.length:Int);omega
 ·obtain⟨c,hc,rfl⟩:=hc x hx
  have:=h4 c hc
  show c.2.2.1.toNat<10;omega
 ·obtain⟨c,hc,rfl⟩:=hc x hx
  have:=(h4 c hc).2.2.2.2.2.2.1
  show (0:Rat)≤(c.2.2.2:Rat)
  exact_mod_cast this
 ·show (0:Rat)≤((cash.getD i 0:Int):Rat)
  have hi':i<cash.length:=hi
  have:0≤cash.getD i 0:=by
   rw[acr,acs hi'];exact (h3 _ (act hi')).1
  exact_mod_cast this
def bt:List ClR→(ClR→Int)→Int
 | [],_=>0
 | c::l,F=>F c+bt l F
def aP (cs:List ClR) (who r:Int):Int:=bt cs fun c=>if c.1=who∧c.2.2.1<r then c.2.2.2 else 0
theorem oJ (cs:List ClR) (F:ClR→Int) (G:Cl→Rat) (h:∀ c∈cs,((F c:Int):Rat)=G (bz c)):((bt cs F:Int):Rat)=sumC (cs.map bz) G:=by
 induction cs with
 | nil=>rfl
 | cons c l ih=>rw[bt,acu,sumC,acv,h c acw,ih fun x hx=>h x (acx _ hx)]
theorem jl {cs:List ClR} {F G:ClR→Int} (h:∀ c∈cs,F c=G c):bt cs F=bt cs G:=by
 induction cs with
 | nil=>rfl
 | cons c l ih=>rw[bt,bt,h c acw,ih fun x hx=>h x (acx _ hx)]
theorem sQ {cs:List ClR} {F:ClR→Int} {B:Int} (hB:0≤B) (h:∀ c∈cs,0≤F c∧F c≤B):0≤bt cs F∧bt cs F≤cs.length*B:=by
 induction cs with
 | nil=>simp [bt]
 | cons c l ih =>
  have h1:=h c acw;have h2:=ih fun x hx=>h x (acx _ hx)
  simp only[bt,acy]
  have:((l.length+1:Nat):Int)*B=l.length*B+B:=by
   rw[Int.natCast_add,Int.add_mul];simp
  omega
theorem jJ (a b:List ClR) (F:ClR→Int):bt (a++b) F=bt a F+bt b F:=by
 induction a with
 | nil=>simp [bt]
 | cons c l ih=>simp only[acz,bt,ih];omega
theorem d7 {cash:List Int} {cs:List ClR} (h:dh cash cs=true) (i r:Nat):((aP cs i r:Int):Rat)=(ab cash cs).U i r:=by
 refine oJ cs _ (fun c=>if c.fr=i∧c.rk<r then c.am else 0) fun c hc=>?_
 have:=(rightD_iff.1 h).2.2.2 c hc
 show ((if c.1=(i:Int)∧c.2.2.1<(r:Int) then c.2.2.2 else 0:Int):Rat)=if c.1.toNat=i∧c.2.2.1.toNat<r then (c.2.2.2:Rat) else 0
 by_cases h1:c.1=(i:Int)∧c.2.2.1<(r:Int)
 ·rw[if_pos h1,if_pos (by omega)]
 ·rw[if_neg h1,if_neg (by omega)];rfl
theorem yA {cash:List Int} {cs:List ClR} (h:dh cash cs=true) (i r:Nat):((aP cs i (r+1:Nat)-aP cs i r:Int):Rat)=(ab cash cs).S i r:=by
 have h1:=d7 h i r;have h2:=d7 h i (r+1);rw[acA,h1,h2,Day.U_succ];grind
def c8 (cash:List Int) (cs:List ClR) (f:Nat→Nat) (i:Nat):Int:=cash.getD i 0+bt cs fun c=>if c.2.1=(i:Int)∧c.2.2.1<(f c.1.toNat:Int) then c.2.2.2 else 0
def ext (N:Nat) (y:Nat→Rat) (z:Rat):Nat→Rat:=fun k=>if k<N then y k else z
theorem qP (N:Nat) (a y:Nat→Rat) (z:Rat):kJ N a (ext N y z)=sumQ N (fun k=>a k*y k)+a N*z:=by
 unfold kJ ext;rw[sumQ]
 congr 1
 ·exact bU fun k hk=>by rw[if_pos hk]
 ·rw[if_neg (by omega)]
theorem yD {N:Nat} {Q:Mat} {pv:Nat→Nat} (h:Red N Q N N pv) (hpv:∀ j,j<N→pv j=j) {i:Nat} (hi:i<N) (y:Nat→Rat) (z:Rat):kJ N (Q i) (ext N y z)=y i+Q i N*z:=by
 rw[qP]
 congr 1
 have:∀ k,k<N→Q i k=if i=k then 1 else 0:=fun k hk=>by
  have:=h.unit k hk i hi
  rwa [hpv k hk] at this
 rw[i5 hi fun k hk hki=>by rw[this k hk,if_neg (Ne.symm hki),acd],this i hi,if_pos rfl,acB]
theorem qO {N:Nat} {Q:Mat} {pv:Nat→Nat} (h:Red N Q N N pv) (hpv:∀ j,j<N→pv j=j) (y:Nat→Rat):Ann N Q (ext N y (-1))↔∀ i,i<N→y i=Q i N:=by
 unfold Ann
 constructor
 ·intro hA i hi
  have:=hA i hi;rw[yD h hpv hi] at this;grind
 ·intro hA i hi
  rw[yD h hpv hi,hA i hi];grind
theorem AP {N:Nat} {Q:Mat} {pv:Nat→Nat} (h:Red N Q N N pv) (hpv:∀ j,j<N→pv j=j) (y:Nat→Rat) (hA:Ann N Q (ext N y 0)):∀ i,i<N→y i=0:=by
 intro i hi;have:=hA i hi;rw[yD h hpv hi] at this;grind
def pR (Q:Mat) (c:Nat):Nat→Rat:=fun k=>if k<c then 0-Q k c else if k=c then 1 else 0
theorem uB {N c:Nat} {Q:Mat} {pv:Nat→Nat} (h:Red N Q c c pv) (hpv:∀ j,j<c→pv j=j) (hc:c<N) (hz:∀ i,c≤i→i<N→Q i c=0):Ann N Q (ext N (pR Q c) 0):=by
 intro i hi;rw[qP]
 have main:∀ n,c<n→n≤N→sumQ n (fun k=>Q i k*pR Q c k)=sumQ (c+1) (fun k=>Q i k*pR Q c k):=by
  intro n
  induction n with
  | zero=>intro h;omega
  | succ n ih =>
   intro h1 h2
   by_cases hcn:c=n
   ·rw[hcn]
   ·rw[sumQ,ih (by omega) (by omega)]
    unfold pR;rw[if_neg (show ¬ n<c by omega),if_neg (show ¬ n=c by omega)];grind
 rw[main N hc (acj _),sumQ];have hk:pR Q c c=1:=by unfold pR;rw[if_neg (by omega),if_pos rfl]
 rw[hk]
 have hu:∀ k,k<c→Q i k=if i=k then 1 else 0:=fun k hk=>by
  have:=h.unit k hk i hi
  rwa [hpv k hk] at this
 rcases acC i c with hlt | hge
 ·rw[i5 hlt fun k hk hki=>by rw[hu k hk,if_neg (Ne.symm hki),acd],hu i hlt,if_pos rfl]
  unfold pR;rw[if_pos hlt];grind
 ·rw[gQ fun k hk=>by rw[hu k hk,if_neg (by omega),acd],hz i hge hi]
  grind
abbrev Col:=Nat→Rat
def lap (n:Nat) (f:List Col→Rat):List Col→List Col→Rat
 | _,[]=>0
 | pre,c::cs=>c n*f (pre++cs)-lap n f (pre++[c]) cs
def eJ:Nat→List Col→Rat
 | 0,[]=>1
 | 0,_::_=>0
 | n+1,cs=>lap n (eJ n) [] cs
def A3 (x y:Col) (a:Rat):Col:=fun i=>x i+a*y i
def OD (f:List Col→Rat):Prop:=∀ A B x y a,f (A++A3 x y a::B)=f (A++x::B)+a*f (A++y::B)
def OI (f:List Col→Rat):Prop:=∀ A B z,f (A++z::z::B)=0
theorem Ae {n:Nat} {f:List Col→Rat} (h:OD f) (x y:Col) (a:Rat) (A:List Col):∀ cs A',lap n f (A++A3 x y a::A') cs=lap n f (A++x::A') cs+a*lap n f (A++y::A') cs:=by
 intro cs
 induction cs with
 | nil=>intro A';simp only[lap];grind
 | cons c cs ih =>
  intro A';have e:=ih (A'++[c]);simp only[lap,acD,acz] at e ⊢;rw[h A (A'++cs) x y a,e];grind
theorem Lg {n:Nat} {f:List Col→Rat} (h:OD f) (x y:Col) (a:Rat) (B:List Col):∀ A pre,lap n f pre (A++A3 x y a::B)=lap n f pre (A++x::B)+a*lap n f pre (A++y::B):=by
 intro A
 induction A with
 | nil =>
  intro pre;have e:=Ae (n:=n) h x y a pre B [];simp only[acE,lap];rw[e];simp only[A3];grind
 | cons c A ih =>
  intro pre;have e:=ih (pre++[c]);have e2:=h (pre++A) B x y a;simp only[acD] at e2;simp only[acz,lap];rw[e,e2];grind
theorem mH:∀ n,OD (eJ n)
 | 0=>by
  intro A B x y a
  cases A<;>simp only[acE,acz,eJ]<;>grind
 | n+1=>fun A B x y a=>Lg (mH n) x y a B A []
theorem zt {n:Nat} {f:List Col→Rat} (h:OI f) (z:Col) (A:List Col):∀ cs A',lap n f (A++z::z::A') cs=0:=by
 intro cs
 induction cs with
 | nil=>intro A';rfl
 | cons c cs ih =>
  intro A';have e:=ih (A'++[c]);have e2:=h A (A'++cs) z;simp only[lap,acD,acz] at e e2 ⊢;rw[e,e2];grind
theorem K1 {n:Nat} {f:List Col→Rat} (h:OI f) (z:Col) (B:List Col):∀ A pre,lap n f pre (A++z::z::B)=0:=by
 intro A
 induction A with
 | nil =>
  intro pre;have e:=zt (n:=n) h z pre B [];simp only[acE,lap,acD,acz] at e ⊢;rw[e];grind
 | cons c A ih =>
  intro pre;have e:=ih (pre++[c]);have e2:=h (pre++A) B z;simp only[acD] at e2;simp only[acz,lap];rw[e,e2];grind
theorem qm:∀ n,OI (eJ n)
 | 0=>by
  intro A B z
  cases A<;>rfl
 | n+1=>fun A B z=>K1 (qm n) z B A []
theorem Jc (n:Nat) (A B:List Col) (x y:Col):eJ n (A++x::y::B) = -eJ n (A++y::x::B):=by
 have h0:=qm n A B (A3 x y 1);have h1:=mH n A (A3 x y 1::B) x y 1;rw[h0] at h1;have h2:=mH n (A++[x]) B x y 1;have h3:=mH n (A++[y]) B x y 1;simp only[acD,acz,acE] at h2 h3;rw[h2,h3,qm n A B x,qm n A B y] at h1;grind
theorem ES (n:Nat) (C:List Col) (z:Col):∀ B A,eJ n (A++z::(B++z::C))=0:=by
 intro B
 induction B with
 | nil=>intro A;exact qm n A C z
 | cons b B ih =>
  intro A;have:=ih (A++[b]);simp only[acD,acz,acE] at this ⊢;rw[Jc,this];grind
theorem uQ {n:Nat} {A B:List Col} {z:Col} (h:z∈A++B):eJ n (A++z::B)=0:=by
 rcases List.mem_append.1 h with h | h
 ·obtain⟨A1,A2,rfl⟩:=acF h
  have:=ES n B z A2 A1
  simpa only [acD,acz] using this
 ·obtain⟨B1,B2,rfl⟩:=acF h
  exact ES n B2 z B1 A
theorem ID {n:Nat} {f:List Col→Rat} {z:Col} (hz:z n=0) (h:∀ A B,f (A++z::B)=0):(∀ cs A A',lap n f (A++z::A') cs=0)∧∀ A B pre,lap n f pre (A++z::B)=0:=by
 have h1:∀ cs A A',lap n f (A++z::A') cs=0:=by
  intro cs
  induction cs with
  | nil=>intro A A';rfl
  | cons c cs ih =>
   intro A A';have e:=ih A (A'++[c]);have e2:=h A (A'++cs);simp only[lap,acD,acz] at e e2 ⊢;rw[e,e2];grind
 refine⟨h1,fun A=>?_⟩
 induction A with
 | nil =>
  intro B pre;have e:=h1 B pre [];simp only[acE,lap];rw[e,hz];grind
 | cons c A ih =>
  intro B pre;have e:=ih B (pre++[c]);have e2:=h (pre++A) B;simp only[acD] at e2;simp only[acz,lap];rw[e,e2];grind
theorem um:∀ n (z:Col),(∀ i,i<n→z i=0)→∀ A B,eJ n (A++z::B)=0
 | 0,z,_=>fun A B=>by cases A<;>rfl
 | n+1,z,h=>fun A B=>(ID (h n (by omega)) (um n z fun i hi=>h i (by omega))).2 A B []
theorem BK {n:Nat} {e:Col} (h:∀ i,i<n→e i=0) (cs:List Col):eJ (n+1) (e::cs)=e n*eJ n cs:=by
 show e n*eJ n ([]++cs)-lap n (eJ n) ([]++[e]) cs=_
 have:∀ cs pre,lap n (eJ n) (e::pre) cs=0:=by
  intro cs
  induction cs with
  | nil=>intro pre;rfl
  | cons c cs ih =>
   intro pre;have e1:=ih (pre++[c]);have e2:=um n e h [] (pre++cs);simp only[lap,acz,acE] at e1 e2 ⊢;rw[e1,e2];grind
 simp only[acE];rw[this cs []];grind
theorem LU {n:Nat} {f:List Col→Rat} {T:Col→Col} (hT:∀ c,T c n=c n) (h:∀ l,f (l.map T)=f l):∀ cs pre,lap n f (pre.map T) (cs.map T)=lap n f pre cs:=by
 intro cs
 induction cs with
 | nil=>intro pre;rfl
 | cons c cs ih =>
  intro pre;have e:=ih (pre++[c]);have e2:=h (pre++cs);simp only[acG,acu,acH] at e e2;simp only[acu,lap];rw[e,e2,hT]
theorem yb:∀ n (T:Col→Col),(∀ c i,i<n→T c i=c i)→∀ l,eJ n (l.map T)=eJ n l
 | 0,T,_=>fun l=>by cases l<;>rfl
 | n+1,T,h=>fun l=>LU (fun c=>h c n (by omega)) (yb n T fun c i hi=>h c i (by omega)) l []
theorem vS {n:Nat} {α:Type} (l:List α) (f g:α→Col) (h:∀ a∈l,∀ i,i<n→f a i=g a i):eJ n (l.map f)=eJ n (l.map g):=by
 rw[←yb n (fun c i=>if i<n then c i else 0) (fun c i hi=>if_pos hi),←yb n (fun c i=>if i<n then c i else 0) (fun c i hi=>if_pos hi) (l.map g)];rw[acI,acI]
 congr 1
 apply List.map_congr_left;intro a ha
 funext i
 simp only[Function.comp]
 split
 ·exact h a ha i (by assumption)
 ·rfl
theorem nT (n:Nat) (A B:List Col) (x:Nat→Rat) (C:Nat→Col):∀ m,eJ n (A++(fun i=>sumQ m fun l=>x l*C l i)::B)=sumQ m fun l=>x l*eJ n (A++C l::B)
 | 0=>um n _ (fun i _=>rfl) A B
 | m+1=>by
  have e:=mH n A B (fun i=>sumQ m fun l=>x l*C l i) (C m) (x m);rw[nT n A B x C m] at e;exact e
def IZ (B:Nat) (x:Rat):Prop:=∃ z:Int,x=(z:Rat)∧z.natAbs≤B
theorem IZ.mono {A B:Nat} {x:Rat} (h:IZ A x) (hl:A≤B):IZ B x:=by obtain⟨z,h1,h2⟩:=h;exact⟨z,h1,by omega⟩
theorem IZ.mul {A B:Nat} {x y:Rat} (hx:IZ A x) (hy:IZ B y):IZ (A*B) (x*y):=by
 obtain⟨z,rfl,h2⟩:=hx;obtain⟨w,rfl,g2⟩:=hy;exact⟨z*w,by rw[acJ],by rw[acK];exact acL h2 g2⟩
theorem IZ.sub {A B:Nat} {x y:Rat} (hx:IZ A x) (hy:IZ B y):IZ (A+B) (x-y):=by
 obtain⟨z,rfl,h2⟩:=hx;obtain⟨w,rfl,g2⟩:=hy;exact⟨z-w,by rw[acA],by omega⟩
theorem IZ.add {A B:Nat} {x y:Rat} (hx:IZ A x) (hy:IZ B y):IZ (A+B) (x+y):=by
 obtain⟨z,rfl,h2⟩:=hx;obtain⟨w,rfl,g2⟩:=hy;exact⟨z+w,by rw[acv],by omega⟩
theorem IZ.zero {B:Nat}:IZ B 0:=⟨0,by rfl,by simp⟩
theorem IZ.int (z:Int):IZ z.natAbs (z:Rat):=⟨z,rfl,acj _⟩
theorem IZ.sum {B:Nat} {f:Nat→Rat}:∀ n,(∀ k,k<n→IZ B (f k))→IZ (n*B) (sumQ n f)
 | 0,_=>IZ.zero
 | n+1,h=>by
  have:=(IZ.sum n fun k hk=>h k (by omega)).add (h n (by omega));exact this.mono (by rw[acM];exact acj _)
def jF:List (Col × Nat)→Nat
 | []=>1
 | p::l=>p.2*jF l
theorem xM (a b:List (Col × Nat)):jF (a++b)=jF a*jF b:=by
 induction a with
 | nil=>simp [jF]
 | cons p l ih=>simp only[acz,jF,ih,acN]
theorem Jq {n M:Nat} {f:List Col→Rat} (h:∀ l:List (Col × Nat),(∀ p∈l,∀ i,i<n+1→IZ p.2 (p.1 i))→l.length≤M→IZ (M^n*jF l) (f (l.map (·.1)))) :
  ∀ cs pre:List (Col × Nat),(∀ p∈pre++cs,∀ i,i<n+1→IZ p.2 (p.1 i))→pre.length+cs.length≤M+1→IZ (cs.length*(M^n*jF (pre++cs))) (lap n f (pre.map (·.1)) (cs.map (·.1)))
 | [],pre,_,_=>IZ.zero
 | c::cs,pre,hp,hl=>by
  have e:=Jq h cs (pre++[c]) (by simpa using hp) (by simp at hl ⊢;omega);have e2:=h (pre++cs) (fun p hm=>hp p (by simp only[acO,acP] at hm ⊢;rcases hm with hm | hm<;>simp [hm])) (by simp at hl ⊢;omega);have e3:=(hp c (by simp) n (by omega)).mul e2;simp only[acG,acu,acH] at e e2 e3;simp only[acu,lap];refine (e3.sub e).mono ?_;simp only[xM,jF,acy,acD,acz,acE,acM]
  have:c.2*(M^n*(jF pre*jF cs))=M^n*(jF pre*(c.2*jF cs)):=by
   rw[acQ,acQ c.2]
  rw[this];omega
theorem Jk (M:Nat):∀ n (l:List (Col × Nat)),(∀ p∈l,∀ i,i<n→IZ p.2 (p.1 i))→l.length≤M→IZ (M^n*jF l) (eJ n (l.map (·.1)))
 | 0,[],_,_=>⟨1,by rfl,by simp [jF]⟩
 | 0,p::l,_,_=>IZ.zero
 | n+1,l,h,hl=>by
  have:=Jq (M:=M) (f:=eJ n) (fun l' h' hl'=>Jk M n l' (fun p hp i hi=>h' p hp i (by omega)) hl') l [] (by simpa using h) (by simp;omega);refine IZ.mono this ?_;rw[acE,acR,acS (M^n) M,acN];exact acT _ hl
open Go
set_option maxRecDepth 10000
set_option maxHeartbeats 1000000
def EncV (N:Nat) (l:List aM) (q:Nat→Rat):Prop:=l=((acm (N+1)).map q).map aj∧∀ k,k≤N→cm (q k)
def EncM (N:Nat) (rows:List MR) (Q:Mat):Prop:=rows.length=N∧∀ (i:Nat) x,rows[i]?=some x→EncV N x.2.2 (Q i)
theorem EncV.get {N:Nat} {l:List aM} {q:Nat→Rat} (h:EncV N l q) {k:Nat} (hk:k≤N):l[k]?=some (aj (q k)):=by
 rw[h.1,acU,acU,acV (by omega)]
 rfl
theorem EncV.len {N:Nat} {l:List aM} {q:Nat→Rat} (h:EncV N l q):l.length=N+1:=by rw[h.1];simp
theorem EncV.of_get {N:Nat} {l:List aM} {q:Nat→Rat} (hl:l.length=N+1) (h:∀ k,k≤N→l[k]?=some (aj (q k))∧cm (q k)):EncV N l q:=by
 refine⟨?_,fun k hk=>(h k hk).2⟩
 apply acW;intro k;rcases acC k (N+1) with hk | hk
 ·rw[(h k (by omega)).1,acU,acU,acV hk];rfl
 ·rw[acX (by omega),acX (by simp;omega)]
theorem EncV.congr {N:Nat} {l:List aM} {q q':Nat→Rat} (h:EncV N l q) (hq:∀ k,k≤N→q k=q' k):EncV N l q' :=
 EncV.of_get h.len fun k hk=>by rw[←hq k hk];exact⟨h.get hk,h.2 k hk⟩
theorem EncV.cell {N:Nat} {x:MR} {q:Nat→Rat} (h:EncV N x.2.2 q) {k:Nat} (hk:k≤N):cL x k=aj (q k):=tQ (h.get hk)
theorem ow (q:Rat):ic (aj q)=decide (q=0):=by
 unfold ic aj aR;rw[Bool.eq_iff_iff,beq_iff_eq,decide_eq_true_eq,Int.sign_eq_zero_iff_zero,Rat.num_eq_zero]
def iB (fac a b:Rat):Bool:=pQ fac b&&ia a (-(fac*b))
theorem Ez {fac a b:Rat} (hf:cm fac) (ha:cm a) (hb:cm b) (h:iB fac a b=true) :
  mg (aj fac) (aj b)=(aj (fac*b),0)∧nt (aj a) (aj (fac*b))=(aj (a-fac*b),0)∧cm (a-fac*b):=by
 unfold iB at h;rw[acq] at h;refine⟨?_,?_,Ee h.2⟩
 ·rw[tz hf hb,h.1];rfl
 ·rw[qL ha (D9 h.1),h.2];rfl
theorem Kf {fac a b:Rat} (hf:cm fac) (ha:cm a) (hb:cm b) (h:iB fac a b=false) :
  ((mg (aj fac) (aj b)).2 != 0||(nt (aj a) (mg (aj fac) (aj b)).1).2 != 0)=true:=by
 unfold iB at h;rw[tz hf hb];rcases h1:pQ fac b
 ·rfl
 ·rw[h1,Bool.true_and] at h
  show ((nt (aj a) (aj (fac*b))).2 != 0)=true;rw[qL ha (D9 h1),h]
  rfl
theorem Cs {fac:Rat} (hf:cm fac):∀ (ql pl:List Rat),ql.length=pl.length→(∀ x∈ql,cm x)→(∀ x∈pl,cm x) →
  ((∀ q∈ql.zip pl,iB fac q.1 q.2=true)→cU (aj fac) (ql.map aj) (pl.map aj) false=((acY (fun a b=>a-fac*b) ql pl).map aj,false)∧∀ x∈acY (fun a b=>a-fac*b) ql pl,cm x) ∧
  ((cU (aj fac) (ql.map aj) (pl.map aj) false).2=false→∀ q∈ql.zip pl,iB fac q.1 q.2=true):=by
 intro ql
 induction ql with
 | nil=>intro pl hl _ _;cases pl with
  | nil=>exact⟨fun _=>⟨rfl,by simp⟩,fun _=>by simp⟩
  | cons=>cases hl
 | cons a ql ih =>
  intro pl hl h1 h2
  cases pl with
  | nil=>cases hl
  | cons b pl =>
   have ha:=h1 a acw;have hb:=h2 b acw;obtain⟨i1,i2⟩:=ih pl (by simpa using hl) (fun x hx=>h1 x (acx _ hx)) (fun x hx=>h2 x (acx _ hx))
   constructor
   ·intro hall
    obtain⟨e1,e2,e3⟩:=Ez hf ha hb (hall (a,b) (by simp));obtain⟨i3,i4⟩:=i1 fun q hq=>hall q (by simp only[acZ,acP];exact .inr hq)
    refine⟨?_,fun x hx=>?_⟩
    ·simp only[acu,cU,e1,e2,ac0,bne_self_eq_false,ac1,i3]
    ·rw[ac0,acP] at hx
     rcases hx with rfl | hx
     ·exact e3
     ·exact i4 x hx
   ·intro hb2
    simp only[acu,cU] at hb2;rcases hs:iB fac a b
    ·rw[Kf hf ha hb hs,o7] at hb2
     cases hb2
    ·obtain⟨e1,e2,e3⟩:=Ez hf ha hb hs
     simp only[e1,e2,bne_self_eq_false,ac1] at hb2;intro q hq;rw[acZ,acP] at hq;rcases hq with rfl | hq
     ·exact hs
     ·exact i2 hb2 q hq
theorem vn (n:Nat) (q p:Nat→Rat):((acm n).map q).zip ((acm n).map p)=(acm n).map fun k=>(q k,p k):=by
 rw[List.zip_map',]
theorem vv (n:Nat) (f:Rat→Rat→Rat) (q p:Nat→Rat):acY f ((acm n).map q) ((acm n).map p)=(acm n).map fun k=>f (q k) (p k):=by
 rw[List.zipWith_map,List.zipWith_self]
theorem HH {N:Nat} {fac:Rat} {l l2:List aM} {q p:Nat→Rat} (hf:cm fac) (h1:EncV N l q) (h2:EncV N l2 p) :
  ((∀ k,k≤N→iB fac (q k) (p k)=true)→(cU (aj fac) l l2 false).2=false)∧((cU (aj fac) l l2 false).2=false→EncV N (cU (aj fac) l l2 false).1 (fun k=>q k-fac*p k)):=by
 obtain⟨e1,e2⟩:=Cs hf ((acm (N+1)).map q) ((acm (N+1)).map p) (by simp) (by
  intro x hx;obtain⟨k,hk,rfl⟩:=List.mem_map.1 hx;exact h1.2 k (by have:=List.mem_range.1 hk;omega)) (by
  intro x hx;obtain⟨k,hk,rfl⟩:=List.mem_map.1 hx;exact h2.2 k (by have:=List.mem_range.1 hk;omega))
 rw[←h1.1,←h2.1] at e1 e2
 have hz:(∀ k,k≤N→iB fac (q k) (p k)=true)↔∀ x∈((acm (N+1)).map q).zip ((acm (N+1)).map p),iB fac x.1 x.2=true:=by
  rw[vn];simp only[ac2,acp]
  constructor
  ·rintro h x ⟨k,hk,rfl⟩;exact h k (by omega)
  ·intro h k hk;exact h (q k,p k) ⟨k,by omega,rfl⟩
 refine⟨fun h=>by rw[(e1 (hz.1 h)).1],fun h=>?_⟩
 obtain⟨e3,e4⟩:=e1 (e2 h);rw[e3,vv] at *;exact⟨rfl,fun k hk=>e4 _ (List.mem_map.2 ⟨k,List.mem_range.2 (by omega),rfl⟩)⟩
theorem kf (prow:List aM) (r c:Nat):∀ (i:Nat) (l:List MR),(bR prow r c i l true).2=true
 | _,[]=>rfl
 | i,x::xs=>by
  unfold bR
  split
  ·exact kf prow r c (i+1) xs
  ·rw[o7];exact kf prow r c (i+1) xs
theorem qa {N r c:Nat} {prow:List aM} {p:Nat→Rat} (hp:EncV N prow p) (hc:c≤N):∀ (i:Nat) (l:List MR) (D:Mat),(∀ (j:Nat) x,l[j]?=some x→EncV N x.2.2 (D (i+j))) →
  ((∀ j,j<l.length→i+j≠r→D (i+j) c≠0→∀ k,k≤N→iB (D (i+j) c) (D (i+j) k) (p k)=true)→(bR prow r c i l false).2=false) ∧
  ((bR prow r c i l false).2=false→∀ (j:Nat) x,(bR prow r c i l false).1[j]?=some x→EncV N x.2.2 (fun k=>if i+j=r then D (i+j) k else D (i+j) k-D (i+j) c*p k))
 | i,[],D,h=>⟨fun _=>rfl,fun _ j x hx=>by simp [bR] at hx⟩
 | i,x::xs,D,h=>by
  have h0:=h 0 x rfl;rw[ac3] at h0
  obtain⟨ih1,ih2⟩:=qa hp hc (i+1) xs D fun j y hy=>by
   have:=h (j+1) y hy
   rwa [show i+(j+1)=i+1+j by omega] at this
  have hcell:=h0.cell hc
  have ihs:(∀ j,j<(x::xs).length→i+j≠r→D (i+j) c≠0→∀ k,k≤N→iB (D (i+j) c) (D (i+j) k) (p k)=true)→∀ j,j<xs.length→i+1+j≠r→D (i+1+j) c≠0→∀ k,k≤N→iB (D (i+1+j) c) (D (i+1+j) k) (p k)=true:=by
   intro hh j hj;have:=hh (j+1) (by simpa using hj)
   rwa [show i+(j+1)=i+1+j by omega] at this
  unfold bR;rw[hcell,ow]
  by_cases hz:(i==r||decide (D i c=0))=true
  ·rw[if_pos hz]
   refine⟨fun hh=>ih1 (ihs hh),fun hb j y hy=>?_⟩
   cases j with
   | zero =>
    simp only[ac4,Option.some.injEq] at hy;subst hy;rw[ac3];refine h0.congr fun k hk=>?_
    simp only[ac5,beq_iff_eq,decide_eq_true_eq] at hz
    split
    ·rfl
    ·rcases hz with hz | hz
     ·contradiction
     ·rw[hz];grind
   | succ j =>
    have:=ih2 hb j y (by simpa using hy)
    rwa [show i+(j+1)=i+1+j by omega]
  ·rw[if_neg hz]
   simp only[ac5,beq_iff_eq,decide_eq_true_eq,not_or] at hz;obtain⟨g1,g2⟩:=HH (h0.2 c hc) h0 hp
   constructor
   ·intro hh
    have h3:=g1 (hh 0 (by simp) (by simpa using hz.1) (by simpa using hz.2));dsimp only;rw[h3];exact ih1 (ihs hh)
   ·intro hb j y hy
    dsimp only at hb hy;rcases hgb:(cU (aj (D i c)) x.2.2 prow false).2
    ·rw[hgb] at hb hy
     cases j with
     | zero =>
      simp only[ac4,Option.some.injEq] at hy;subst hy;rw[ac3];exact (g2 hgb).congr fun k hk=>by rw[if_neg hz.1]
     | succ j =>
      have:=ih2 hb j y (by simpa using hy)
      rwa [show i+(j+1)=i+1+j by omega]
    ·rw[hgb,kf] at hb
     cases hb
theorem DE {N:Nat} {l:List aM} {q:Nat→Rat} {b:Rat} (h:EncV N l q) (hb:cm b) (h0:b≠0) :
  ((cB (aj b) l).2=false↔∀ k,k≤N→nH (q k) b=true)∧((cB (aj b) l).2=false→EncV N (cB (aj b) l).1 (fun k=>q k / b)):=by
 have e1:(cB (aj b) l).2=false↔∀ k,k≤N→nH (q k) b=true:=by
  unfold cB;rw[h.1];simp only[ac6,ac2,acp]
  constructor
  ·intro hh k hk
   have:=hh (aj (q k)) ⟨q k,⟨k,by omega,rfl⟩,rfl⟩
   rw[qT (h.2 k hk) hb h0] at this;rcases hd:nH (q k) b
   ·rw[hd] at this;exact absurd rfl this
   ·rfl
  ·rintro hh _ ⟨_,⟨k,hk,rfl⟩,rfl⟩
   rw[qT (h.2 k (by omega)) hb h0,hh k (by omega)];simp [qz]
 refine⟨e1,fun hh=>?_⟩
 have hok:=e1.1 hh;refine EncV.of_get (by unfold cB;rw[ac7,h.len]) fun k hk=>⟨?_,L3 (hok k hk)⟩
 unfold cB;rw[acU,h.get hk,ac8,qT (h.2 k hk) hb h0,hok k hk]
 rfl
theorem EncM.row {N:Nat} {rows:List MR} {Q:Mat} (h:EncM N rows Q) {i:Nat} (hi:i<N):∃ x,rows[i]?=some x∧fp rows i=x∧EncV N x.2.2 (Q i):=by
 obtain⟨x,hx⟩:∃ x,rows[i]?=some x:=⟨_,acs (by have:=h.1;omega)⟩;exact⟨x,hx,kY hx,h.2 i x hx⟩
theorem EncM.swap {N:Nat} {rows:List MR} {Q:Mat} (h:EncM N rows Q) {r s:Nat} (hr:r<N) (hs:s<N):EncM N (swapped rows r s) (dc Q r s):=by
 obtain⟨x,hx,ex,vx⟩:=h.row hr;obtain⟨y,hy,ey,vy⟩:=h.row hs;unfold swapped;rw[ex,ey];refine⟨by rw[ac9,ac9];exact h.1,fun i z hz=>?_⟩
 rw[ada,ada,ac9] at hz;unfold dc
 by_cases h1:s=i
 ·rw[if_pos h1,if_pos (by have:=h.1;omega)] at hz
  cases hz;rw[if_pos h1.symm];exact vx
 ·rw[if_neg h1] at hz
  rw[if_neg (Ne.symm h1)]
  by_cases h2:r=i
  ·rw[if_pos h2,if_pos (by have:=h.1;omega)] at hz
   cases hz;rw[if_pos h2.symm];exact vy
  ·rw[if_neg h2] at hz
   rw[if_neg (Ne.symm h2)];exact h.2 i z hz
def M8 (N:Nat) (S:Mat) (r c:Nat):Prop:=(∀ k,k≤N→nH (S r k) (S r c)=true)∧∀ i,i<N→i≠r→S i c≠0→∀ k,k≤N→iB (S i c) (S i k) (S r k / S r c)=true
theorem BA {N:Nat} {rows:List MR} {Q:Mat} (h:EncM N rows Q) {r c:Nat} (hr:r<N) (hc:c<N) :
  ((gY rows r c).1=true∧(gY rows r c).2.1=rows∧(gY rows r c).2.2=false∧∀ i,r≤i→i<N→Q i c=0) ∨
  ((gY rows r c).1=false∧∃ s,r≤s∧s<N∧Q s c≠0∧((gY rows r c).2.2=false→EncM N (gY rows r c).2.1 (mZ Q r c s))∧(M8 N (dc Q r s) r c→(gY rows r c).2.2=false)):=by
 have hl:=h.1;have hfl:=wN rows r c (by omega)
 have hfz:∀ i x,r≤i→i<cw rows r c→rows[i]?=some x→ic (cL x c)=true:=by
  intro i x hi1 hi2 hx;unfold cw at hi2;have hlt:i-r<(rows.drop r).findIdx fun x => !ic (cL x c):=by omega
  have:=List.not_of_lt_findIdx hlt
  have hg:(rows.drop r)[i-r]'(Nat.lt_of_lt_of_le hlt List.findIdx_le_length)=x:=by
   rw[adb];have:=(List.getElem?_eq_some_iff.1 hx)
   obtain⟨h1,h2⟩:=this;simp only[show r+(i-r)=i by omega]
   exact h2
  rw[hg] at this
  simpa using this
 unfold gY
 by_cases hf:cw rows r c=rows.length
 ·left
  rw[if_pos hf];refine⟨rfl,rfl,rfl,fun i hi1 hi2=>?_⟩
  obtain⟨x,hx,-,vx⟩:=h.row hi2;have:=hfz i x hi1 (by omega) hx;rw[vx.cell (by omega),ow] at this
  simpa using this
 ·right
  rw[if_neg hf];refine⟨rfl,cw rows r c,hfl.1,by omega,?_,?_⟩
  ·obtain⟨x,hx,-,vx⟩:=h.row (i:=cw rows r c) (by omega)
   have hlt:cw rows r c-r<(rows.drop r).length:=by rw[adc];omega
   have h2:(rows.drop r).findIdx (fun x => !ic (cL x c))<(rows.drop r).length:=by
    unfold cw at hlt;omega
   have h3:=ade (w:=h2)
   have hg:(rows.drop r)[(rows.drop r).findIdx fun x => !ic (cL x c)]=x:=by
    rw[adb];exact (List.getElem?_eq_some_iff.1 hx).2
   rw[hg,vx.cell (by omega),ow] at h3
   simpa using h3
  ·have hs:cw rows r c<N:=by omega
   have hsw:=h.swap hr hs
   have hne:dc Q r (cw rows r c) r c≠0:=by
    rw[sT];obtain⟨x,hx,-,vx⟩:=h.row hs
    have h2:(rows.drop r).findIdx (fun x => !ic (cL x c))<(rows.drop r).length:=by
     rw[adc];unfold cw at hs;omega
    have h3:=ade (w:=h2)
    have hg:(rows.drop r)[(rows.drop r).findIdx fun x => !ic (cL x c)]=x:=by
     rw[adb];exact (List.getElem?_eq_some_iff.1 hx).2
    rw[hg,vx.cell (by omega),ow] at h3
    simpa using h3
   have hpq:mZ Q r c (cw rows r c)=fun i k=>if i=r then dc Q r (cw rows r c) r k / dc Q r (cw rows r c) r c else dc Q r (cw rows r c) i k-dc Q r (cw rows r c) i c*(dc Q r (cw rows r c) r k / dc Q r (cw rows r c) r c):=rfl
   rw[hpq];generalize swapped rows r (cw rows r c)=sw at *;generalize dc Q r (cw rows r c)=S at *;obtain⟨x,hx,ex,vx⟩:=hsw.row hr;rw[ex,vx.cell (by omega)];obtain⟨d1,d2⟩:=DE vx (vx.2 c (by omega)) hne
   have hdv:divided sw r c=sw.set r (x.1,x.2.1,(cB (aj (S r c)) x.2.2).1):=by
    unfold divided;rw[ex,vx.cell (by omega)]
   rw[hdv]
   have hrows:EncV N (cB (aj (S r c)) x.2.2).1 (fun k=>S r k / S r c)→∀ (j:Nat) y,(sw.set r (x.1,x.2.1,(cB (aj (S r c)) x.2.2).1))[j]?=some y→EncV N y.2.2 ((fun i=>if i=r then fun k=>S r k / S r c else S i) (0+j)):=by
    intro hd j y hy;rw[adf];rw[ada] at hy
    by_cases hj:r=j
    ·rw[if_pos hj,if_pos (by have:=hsw.1;omega)] at hy
     cases hy;dsimp only;rw[if_pos hj.symm];exact hd
    ·rw[if_neg hj] at hy
     dsimp only;rw[if_neg (Ne.symm hj)];exact hsw.2 j y hy
   dsimp only;rcases hdb:(cB (aj (S r c)) x.2.2).2
   ·have hd:=d2 hdb
    obtain⟨r1,r2⟩:=qa (r:=r) (c:=c) hd (by omega) 0 (sw.set r (x.1,x.2.1,(cB (aj (S r c)) x.2.2).1)) (fun i=>if i=r then fun k=>S r k / S r c else S i) (hrows hd)
    constructor
    ·intro hb
     refine⟨?_,fun i z hz=>?_⟩
     ·have:=congrArg List.length (iW (cB (aj (S r c)) x.2.2).1 r c 0 (sw.set r (x.1,x.2.1,(cB (aj (S r c)) x.2.2).1)) false)
      rw[ac7,ac7,ac9] at this;rw[this];exact hsw.1
     ·have:=r2 hb i z hz
      rw[adf] at this;refine this.congr fun k hk=>?_
      by_cases hir:i=r
      ·simp only[if_pos hir]
      ·simp only[if_neg hir]
    ·intro hok
     refine r1 fun j hj hjr hne k hk=>?_
     rw[adf] at *;simp only[if_neg hjr] at hne ⊢;rw[ac9,hsw.1] at hj;exact hok.2 j hj hjr hne k hk
   ·constructor
    ·intro hb
     rw[kf] at hb
     cases hb
    ·intro hok
     rw[d1.2 hok.1] at hdb
     cases hdb
structure Elim (N:Nat) (Q Q':Mat) (rows:List MR) (p c:Nat) (pv:Nat→Nat):Prop where
 enc:EncM N rows Q'
 red:Red N Q' p c pv
 ann:∀ y,Ann N Q' y↔Ann N Q y
theorem CT (stop:Bool) (N:Nat) (Q0:Mat):∀ k c rows free Q p pv,c+k=N→Elim N Q0 Q rows p c pv→p+free.length=c→(stop=true→free=[]∧∀ j,j<p→pv j=j) →
  ∀ rows' free',gd stop k c rows free false=(rows',free',false) →
  ∃ Q' p' c' pv',Elim N Q0 Q' rows' p' c' pv'∧(stop=false→c'=N∧p'+free'.length=N) ∧
   (stop=true→(free'=[]∧c'=N∧p'=N∧∀ j,j<N→pv' j=j)∨(∃ f,free'=[f]∧f<N∧p'=f∧c'=f∧(∀ j,j<f→pv' j=j)∧∀ i,f≤i→i<N→Q' i f=0)):=by
 intro k
 induction k with
 | zero =>
  intro c rows free Q p pv hc he hp hs rows' free' hx;simp only[gd,Prod.mk.injEq,and_true] at hx;obtain⟨rfl,rfl⟩:=hx;refine⟨Q,p,c,pv,he,fun _=>⟨by omega,by omega⟩,fun h=>?_⟩
  obtain⟨h1,h2⟩:=hs h;subst h1;simp only[adg,ac3] at hp;exact .inl ⟨rfl,by omega,by omega,fun j hj=>h2 j (by omega)⟩
 | succ k ih =>
  intro c rows free Q p pv hc he hp hs rows' free' hx;have hcp:c-free.length=p:=by omega
  unfold gd at hx;rw[hcp] at hx;rcases BA he.enc (r:=p) (c:=c) (by omega) (by omega) with ⟨h1,h2,h3,h4⟩ | ⟨h1,s,hs1,hs2,hs3,h4,h5⟩
  ·rw[h1,h2,h3,if_pos rfl] at hx
   cases stop with
   | true =>
    rw[if_pos rfl] at hx;simp only[Prod.mk.injEq,and_true] at hx;obtain⟨rfl,rfl⟩:=hx;obtain⟨g1,g2⟩:=hs rfl;subst g1;simp only[adg,ac3] at hp;subst hp;exact⟨Q,p,p,pv,he,by simp,fun _ => .inr ⟨p,rfl,by omega,rfl,rfl,g2,h4⟩⟩
   | false =>
    rw[if_neg (by simp)] at hx;exact ih (c+1) rows (free++[c]) Q p pv (by omega) ⟨he.enc,he.red.free h4,he.ann⟩ (by simp;omega) (by simp) rows' free' hx
  ·rw[h1,if_neg (by simp)] at hx
   rcases hb:(gY rows p c).2.2
   ·rw[hb] at hx
    have hen:=h4 hb;refine ih (c+1) _ free (mZ Q p c s) (p+1) (fun j=>if j=p then c else pv j) (by omega) ⟨hen,he.red.piv (by omega) hs1 hs2 hs3,fun y=>(xe (by omega) hs2 hs3).trans (he.ann y)⟩ (by omega) (fun h=>?_) rows' free' hx
    obtain⟨g1,g2⟩:=hs h;refine⟨g1,fun j hj=>?_⟩
    subst g1;simp only[adg,ac3] at hp
    show (if j=p then c else pv j)=j
    split
    ·omega
    ·exact g2 j (by omega)
   ·rw[hb,wG] at hx
    cases hx
def ka (rs:List cG):Mat:=fun i k=>if k<rs.length then pC ((rs.getD i ([],cb)).1.getD k cb) else pC (rs.getD i ([],cb)).2
theorem o9 {f:aM} (h:bh f=true):f=aj (pC f)∧cm (pC f):=by
 obtain⟨x,hx,rfl⟩:=(kE _).1 h;rw[kG];exact⟨rfl,hx⟩
theorem zT {rs:List cG} {n:Int} (h:fB rs n=true):(rs.length:Int)=n∧rs.length≤40∧∀ r∈rs,r.1.length=rs.length∧bh r.2=true∧∀ f∈r.1,bh f=true:=by
 unfold fB at h;simp only[acq,adh,decide_eq_false_iff_not,beq_iff_eq] at h;obtain⟨h1,h2,h3,h4⟩:=h;refine⟨h3,by omega,fun r hr=>?_⟩
 rw[ac6] at h4;have:=h4 r hr;unfold fG Ck at this;simp only[adh,Bool.not_eq_true,Bool.not_eq_false',acq,beq_iff_eq,ac6,Bool.not_eq_false] at this;obtain⟨q1,q2,q3⟩:=this;exact⟨by omega,q2,fun f hf=>by simpa using q3 f hf⟩
theorem AU {rs:List cG} {i:Nat} {r:cG} (h:rs[i]?=some r):rs.getD i ([],cb)=r:=by
 rw[acr,h];rfl
theorem D7 {rs:List cG} {n:Int} (h:fB rs n=true):EncM rs.length (dq rs) (ka rs):=by
 obtain⟨hn,h40,hrows⟩:=zT h;refine⟨mO rs,fun i x hx=>?_⟩
 have hi:i<rs.length:=by
  have:=(List.getElem?_eq_some_iff.1 hx).1
  rwa [mO] at this
 obtain⟨r,hr⟩:∃ r,rs[i]?=some r:=⟨_,acs hi⟩;rw[Eg hr] at hx
 cases hx;obtain⟨e1,e2,e3⟩:=hrows r (adi hr);refine EncV.of_get (by simp [e1]) fun k hk=>?_
 unfold ka;rw[AU hr]
 by_cases hk2:k<rs.length
 ·rw[if_pos hk2]
  obtain⟨f,hf⟩:∃ f,r.1[k]?=some f:=⟨_,acs (by omega)⟩;obtain⟨q1,q2⟩:=o9 (e3 f (adi hf));rw[adj (by omega),hf,acr,hf];exact⟨congrArg some q1,q2⟩
 ·rw[if_neg hk2]
  obtain⟨q1,q2⟩:=o9 e2;rw[adk (by omega),e1,show k-rs.length=0 by omega]
  exact⟨congrArg some q1,q2⟩
theorem B3 (stop:Bool) {rs:List cG} {n:Int} (h:fB rs n=true) {rows':List MR} {free':List Nat} (hx:j5 stop rs=(rows',free',false)) :
  ∃ Q' p' c' pv',Elim rs.length (ka rs) Q' rows' p' c' pv'∧(stop=false→c'=rs.length∧p'+free'.length=rs.length) ∧
   (stop=true→(free'=[]∧c'=rs.length∧p'=rs.length∧∀ j,j<rs.length→pv' j=j)∨(∃ f,free'=[f]∧f<rs.length∧p'=f∧c'=f∧(∀ j,j<f→pv' j=j)∧∀ i,f≤i→i<rs.length→Q' i f=0)) :=
 CT stop rs.length (ka rs) rs.length 0 (dq rs) [] (ka rs) 0 (fun j=>j) (by omega) ⟨D7 h,ol _ _ _,fun _=>Iff.rfl⟩ rfl (fun _=>⟨rfl,fun j hj=>by omega⟩) rows' free' hx
def CD (N:Nat) (q:Nat→Rat) (b:Nat):Prop:=∃ (v:Nat→Int) (d:Int),d≠0∧d.natAbs≤2^b∧∀ k,k≤N→q k*(d:Rat)=(v k:Rat)∧(v k).natAbs≤2^b
theorem CD.mono {N a b:Nat} {q:Nat→Rat} (h:CD N q a) (hab:a≤b):CD N q b:=by
 obtain⟨v,d,h1,h2,h3⟩:=h;have hp:2^a≤2^b:=adl (by omega) hab;exact⟨v,d,h1,adm h2 hp,fun k hk=>⟨(h3 k hk).1,adm (h3 k hk).2 hp⟩⟩
theorem cross {q:Rat} {v d:Int} (hd:d≠0) (h:q*(d:Rat)=(v:Rat)):q.num*d=v*q.den:=by
 have hd':(d:Rat)≠0:=by rw[Ne,adn];exact hd
 have e:q=ado v d:=by rw[adp];grind
 have e2:ado q.num q.den=ado v d:=by rw[Rat.num_divInt_den];exact e
 exact (Rat.divInt_eq_divInt_iff (kB q) hd).1 e2
theorem fI {q:Rat} {v d:Int} (hd:d≠0) (h:q*(d:Rat)=(v:Rat)):q.num.natAbs≤v.natAbs∧q.den≤d.natAbs:=by
 have hc:=cross hd h
 have hc':q.num.natAbs*d.natAbs=v.natAbs*q.den:=by
  have:=congrArg Int.natAbs hc
  rwa [acK,acK,adq] at this
 have hdd:q.den∣d.natAbs:=(Nat.Coprime.symm q.reduced).dvd_of_dvd_mul_left ⟨v.natAbs,by rw[hc',acS]⟩
 have hdp:0<d.natAbs:=by omega
 have h2:=Nat.le_of_dvd hdp hdd;refine⟨?_,h2⟩;obtain⟨m,hm⟩:=hdd;rw[hm] at hc';have hqp:=q.den_pos
 have h3:q.num.natAbs*m=v.natAbs:=by
  have:q.den*(q.num.natAbs*m)=q.den*v.natAbs:=by rw[acS q.den v.natAbs,←hc'];rw[acQ]
  exact Nat.eq_of_mul_eq_mul_left hqp this
 have hm0:0<m:=by
  rcases adr m with h0 | h0
  ·rw[h0,Nat.mul_zero] at hm;omega
  ·exact h0
 rw[←h3];exact Nat.le_mul_of_pos_right _ hm0
def szR (b:Nat) (q:Rat):Prop:=q.num.natAbs≤2^b∧q.den≤2^b
theorem CD.sz {N b:Nat} {q:Nat→Rat} (h:CD N q b) {k:Nat} (hk:k≤N):szR b (q k):=by
 obtain⟨v,d,h1,h2,h3⟩:=h;obtain⟨e1,e2⟩:=h3 k hk;obtain⟨f1,f2⟩:=fI h1 e1;exact⟨adm f1 e2,adm f2 h2⟩
theorem JM (a b c:Nat) (h:a=2^b):a^c=2^(b*c):=by rw[h,←Nat.pow_mul]
theorem E6:∃ B:Nat,B=1200∧LIM=2^B:=⟨20*60,rfl,JM 1048576 20 60 (by decide)⟩
theorem ny {z:Int} {b:Nat} (h:z.natAbs≤2^b) (hb:b<1200):okZ z=true:=by
 obtain⟨B,hB,hL⟩:=E6;unfold okZ;rw[hL,decide_eq_true_eq];exact Nat.lt_of_le_of_lt h (Nat.pow_lt_pow_right (by omega) (by omega))
theorem iP {x y:Int} {a b:Nat} (hx:x.natAbs≤2^a) (hy:y.natAbs≤2^b):(x*y).natAbs≤2^(a+b):=by
 rw[acK,ads];exact acL hx hy
theorem J4 {x y:Int} {a:Nat} (hx:x.natAbs≤2^a) (hy:y.natAbs≤2^a):(x+y).natAbs≤2^(a+1):=by
 have:=Int.natAbs_add_le x y;rw[acR];omega
theorem szR.mono {a b:Nat} {q:Rat} (h:szR a q) (hab:a≤b):szR b q:=by
 have hp:2^a≤2^b:=adl (by omega) hab;exact⟨adm h.1 hp,adm h.2 hp⟩
theorem ud {x y:Rat} {a b:Nat} (hx:szR a x) (hy:szR b y) (h:a+b<1200):pQ x y=true:=by
 unfold pQ;rw[acq];exact⟨ny (iP hx.1 hy.1) h,ny (iP (x:=(x.den:Int)) (y:=(y.den:Int)) (by simpa using hx.2) (by simpa using hy.2)) h⟩
theorem A6 {x y:Rat} {a b:Nat} (hx:szR a x) (hy:szR b y) (h:a+b<1200):nH x y=true:=by
 unfold nH;rw[acq];exact⟨ny (iP (y:=(y.den:Int)) hx.1 (by simpa using hy.2)) h,ny (iP (x:=(x.den:Int)) (by simpa using hx.2) hy.1) h⟩
theorem jO {x y:Rat} {a b:Nat} (hx:szR a x) (hy:szR b y) (h:a+b+1<1200):ia x y=true:=by
 unfold ia;have h1:=iP (y:=(y.den:Int)) hx.1 (by simpa using hy.2);have h2:=iP (y:=(x.den:Int)) hy.1 (by simpa using hx.2);rw[adt b a] at h2;simp only[acq];exact⟨ny h1 (by omega),ny h2 (by omega),ny (J4 h1 h2) h,ny (iP (x:=(x.den:Int)) (y:=(y.den:Int)) (by simpa using hx.2) (by simpa using hy.2)) (by omega)⟩
theorem oK {b:Nat} {q:Rat} (h:szR b q):szR b (-q):=⟨by rw[adu,Int.natAbs_neg];exact h.1,h.2⟩
theorem xx {p q:Int} {b:Nat} (h1:p.natAbs≤2^b) (h2:q.natAbs≤2^b) (hq:q≠0):szR b (ado p q):=by
 have hq':(q:Rat)≠0:=by rw[Ne,adn];exact hq
 have:=fI (q:=ado p q) (v:=p) hq (by rw[adp];grind);exact⟨adm this.1 h1,adm this.2 h2⟩
theorem y6 {x y:Rat} {a b:Nat} (hx:szR a x) (hy:szR b y):szR (a+b) (x*y):=by
 rw[←pa];exact xx (iP hx.1 hy.1) (iP (x:=(x.den:Int)) (y:=(y.den:Int)) (by simpa using hx.2) (by simpa using hy.2)) (adv (kB x) (kB y))
theorem DR {x y:Rat} {a b:Nat} (hx:szR a x) (hy:szR b y):szR (a+b+1) (x+y):=by
 rw[←pq];have h1:=iP (y:=(y.den:Int)) hx.1 (by simpa using hy.2);have h2:=iP (y:=(x.den:Int)) hy.1 (by simpa using hx.2);rw[adt b a] at h2;have h3:=iP (x:=(x.den:Int)) (y:=(y.den:Int)) (a:=a) (b:=b) (by simpa using hx.2) (by simpa using hy.2);exact xx (J4 h1 h2) (adm h3 (adl (by omega) (by omega))) (adv (kB x) (kB y))
theorem N0 {x y:Rat} {a b:Nat} (hx:szR a x) (hy:szR b y) (h0:y≠0):szR (a+b) (x / y):=by
 rw[←pm];have hn:y.num≠0:=fun h=>h0 (Rat.num_eq_zero.1 h)
 exact xx (iP (y:=(y.den:Int)) hx.1 (by simpa using hy.2)) (iP (x:=(x.den:Int)) (by simpa using hx.2) hy.1) (adv (kB x) hn)
def jQ (A:Mat) (σ:Nat→Nat) (k:Nat):Col:=fun i=>A (σ i) k
def jD:Nat→List Nat
 | 0=>[]
 | p+1=>p::jD p
theorem mem_revL {k:Nat}:∀ {p:Nat},k∈jD p↔k<p
 | 0=>by simp [jD]
 | p+1=>by
  simp only[jD,acP,mem_revL (p:=p)];omega
theorem nS:∀ p,(jD p).length=p
 | 0=>rfl
 | p+1=>by simp [jD,nS p]
theorem tG {l:Nat}:∀ {p:Nat},l<p→∃ X Y,jD p=X++l::Y∧∀ m,m∈X++Y↔m<p∧m≠l
 | 0,h=>by omega
 | p+1,h=>by
  by_cases hl:l=p
  ·subst hl
   refine⟨[],jD l,rfl,fun m=>?_⟩
   rw[acE,mem_revL];omega
  ·obtain⟨X,Y,h1,h2⟩:=tG (l:=l) (p:=p) (by omega)
   refine⟨p::X,Y,by simp [jD,h1],fun m=>?_⟩
   rw[acz,acP,h2];omega
def nU (A:Mat) (σ:Nat→Nat) (p:Nat):List Col:=(jD p).map (jQ A σ)
theorem qX {n:Nat} {c c':Col} (X Y:List Col) (h:∀ i,i<n→c i=c' i):eJ n (X++c::Y)=eJ n (X++c'::Y):=by
 have:=vS (n:=n) (X.map (fun x=>(x,x))++(c,c')::Y.map (fun x=>(x,x))) Prod.fst Prod.snd (fun a ha i hi=>by
  simp only[acO,acP,ac2] at ha;rcases ha with ⟨x,_,rfl⟩ | rfl | ⟨x,_,rfl⟩
  ·rfl
  ·exact h i hi
  ·rfl)
 simpa [Function.comp_def] using this
theorem EL {A:Mat} {σ τ:Nat→Nat} {p:Nat} (h:∀ i,i<p→σ i=τ i):eJ p (nU A σ p)=eJ p (nU A τ p) :=
 vS _ _ _ fun a _ i hi=>by unfold jQ;rw[h i hi]
def Fe (N:Nat) (A Q:Mat) (σ:Nat→Nat) (p:Nat):Prop:=∀ i,i<N→∀ k,p≤k→k≤N→A (σ i) k=(if i<p then 0 else Q i k)+sumQ p fun l=>A (σ i) l*Q l k
def DI (N:Nat) (A Q:Mat) (p:Nat):Prop:=∃ σ:Nat→Nat,(∀ i,i<N→σ i<N)∧Fe N A Q σ p∧eJ p (nU A σ p)≠0
theorem DI.start (N:Nat) (A:Mat):DI N A A 0:=by
 refine⟨fun i=>i,fun i h=>h,fun i hi k _ hk=>?_,?_⟩
 ·rw[if_neg (by omega)];show A i k=A i k+0;grind
 ·show (1:Rat)≠0;decide
theorem Ly {p:Nat} (a x y:Nat→Rat) (t:Rat):sumQ p (fun l=>a l*(x l-y l*t))=sumQ p (fun l=>a l*x l)-t*sumQ p fun l=>a l*y l:=by
 have:(fun l=>a l*(x l-y l*t))=fun l=>a l*x l+(-t)*(a l*y l):=by funext l;grind
 rw[this,kH,mG];grind
theorem DI.step {N p s:Nat} {A Q:Mat} (h:DI N A Q p) (hp:p<N) (hs:p≤s) (hsN:s<N) (hne:Q s p≠0):DI N A (mZ Q p p s) (p+1):=by
 obtain⟨σ,hσ,hr,hd⟩:=h
 let π:Nat→Nat:=fun i=>if i=s then p else if i=p then s else i
 have hπ:∀ i,dc Q p s i=Q (π i):=by
  intro i
  show (if i=s then Q p else if i=p then Q s else Q i)=Q (if i=s then p else if i=p then s else i)
  split
  ·rfl
  ·split<;>rfl
 have hπN:∀ i,i<N→π i<N:=fun i hi=>by show (if i=s then p else if i=p then s else i)<N;split<;>(try split)<;>omega
 have hπp:∀ i,i<p→π i=i:=fun i hi=>by show (if i=s then p else if i=p then s else i)=i;rw[if_neg (by omega),if_neg (by omega)]
 have hπq:∀ i,p≤i→p≤π i:=fun i hi=>by show p≤(if i=s then p else if i=p then s else i);split<;>(try split)<;>omega
 have hS:Fe N A (dc Q p s) (fun i=>σ (π i)) p:=by
  intro i hi k hk1 hk2;have:=hr (π i) (hπN i hi) k hk1 hk2;rw[this]
  congr 1
  ·by_cases hip:i<p
   ·rw[if_pos hip,if_pos (by rw[hπp i hip];exact hip)]
   ·rw[if_neg hip,if_neg (by have:=hπq i (by omega);omega),hπ]
  ·refine bU fun l hl=>?_
   rw[hπ l,hπp l hl]
 have hSp:dc Q p s p p≠0:=by rw[sT];exact hne
 generalize hSd:dc Q p s=S at *
 have hq:mZ Q p p s=fun i k=>if i=p then S p k / S p p else S i k-S i p*(S p k / S p p):=by
  funext i k;unfold mZ;rw[hSd]
 rw[hq]
 have hd':eJ p (nU A (fun i=>σ (π i)) p)≠0:=by
  rw[EL (τ:=σ) fun i hi=>by show σ (π i)=σ i;rw[hπp i hi]]
  exact hd
 generalize hτ:(fun i=>σ (π i))=τ at *;refine⟨τ,fun i hi=>by rw[←hτ];exact hσ _ (hπN i hi),fun i hi k hk1 hk2=>?_,?_⟩
 ·have e1:=hS i hi k (by omega) hk2
  have e2:=hS i hi p (by omega) (by omega);simp only[sumQ,if_true];rw[bU (g:=fun l=>A (τ i) l*(S l k-S l p*(S p k / S p p))) fun l hl=>by rw[if_neg (by omega)],Ly]
  generalize sumQ p (fun l=>A (τ i) l*S l k)=X at *;generalize sumQ p (fun l=>A (τ i) l*S l p)=Y at *
  by_cases h1:i<p
  ·rw[if_pos h1] at e1 e2
   rw[if_pos (by omega)];grind
  ·rw[if_neg h1] at e1 e2
   by_cases h2:i=p
   ·subst h2
    rw[if_pos (by omega)];grind
   ·rw[if_neg (by omega),if_neg h2]
    grind
 ·have hc:eJ (p+1) (nU A τ (p+1))=S p p*eJ p (nU A τ p):=by
   show eJ (p+1) ([]++jQ A τ p::nU A τ p)=_
   rw[qX (c':=A3 (fun i=>if i<p then 0 else S i p) (fun i=>sumQ p fun l=>S l p*jQ A τ l i) 1) [] _ fun i hi=>by
    have:=hS i (by omega) p (by omega) (by omega)
    show A (τ i) p=(if i<p then 0 else S i p)+1*sumQ p fun l=>S l p*A (τ i) l
    rw[this,acB]
    congr 1
    exact bU fun l _=>adw _ _]
   rw[mH,nT,gQ fun l hl=>by
    rw[uQ (by rw[acE];exact adx (mem_revL.2 hl))];exact aci _]
   rw[acE,BK fun i hi=>if_pos hi,if_neg (by omega)]
   grind
  rw[hc];intro h0;rcases Rat.mul_eq_zero.1 h0 with h0 | h0
  ·exact hSp h0
  ·exact hd' h0
theorem zH {N p l k:Nat} {A Q:Mat} {σ:Nat→Nat} (hr:Fe N A Q σ p) (hp:p≤N) (hl:l<p) (hk1:p≤k) (hk2:k≤N):∃ L:List Nat,L.length=p∧(∀ m∈L,m<p∨m=k)∧L.count k≤1∧Q l k*eJ p (nU A σ p)=eJ p (L.map (jQ A σ)):=by
 obtain⟨X,Y,hX,hm⟩:=tG hl;have hlen:=nS p;rw[hX] at hlen;refine⟨X++k::Y,by simp at hlen ⊢;omega,fun m hmm=>?_,?_,?_⟩
 ·have:m=k∨m∈X++Y:=by
   simp only[acO,acP] at hmm ⊢;rcases hmm with h | h | h<;>simp [h]
  rcases this with h | h
  ·exact .inr h
  ·exact .inl ((hm m).1 h).1
 ·have h0:∀ Z:List Nat,(∀ m∈Z,m∈X++Y)→Z.count k=0:=fun Z hZ=>List.count_eq_zero.2 fun hz=>by have:=((hm k).1 (hZ k hz)).1;omega
  rw[List.count_append,ady,h0 X (by simp +contextual),h0 Y (by simp +contextual)];omega
 ·rw[acG,acu]
  rw[qX (c':=fun i=>sumQ p fun m=>Q m k*jQ A σ m i) _ _ fun i hi=>by
   have:=hr i (by omega) k hk1 hk2;rw[if_pos hi] at this
   show A (σ i) k=sumQ p fun m=>Q m k*A (σ i) m
   rw[this,adz];exact bU fun l _=>adw _ _]
  rw[nT,i5 hl fun m hmp hml=>by
   rw[uQ (by rw[←acG];exact adx ((hm m).2 ⟨hmp,hml⟩))];exact aci _]
  unfold nU;rw[hX,acG,acu]
theorem IF {N p i k:Nat} {A Q:Mat} {σ:Nat→Nat} (hr:Fe N A Q σ p) (hi1:p≤i) (hi2:i<N) (hk1:p≤k) (hk2:k≤N):Q i k*eJ p (nU A σ p)=eJ (p+1) ((k::jD p).map (jQ A fun j=>if j=p then σ i else σ j)):=by
 have hτ:∀ j,j<p→(fun j=>if j=p then σ i else σ j) j=σ j:=fun j hj=>if_neg (by omega)
 have hτp:(fun j=>if j=p then σ i else σ j) p=σ i:=if_pos rfl;generalize (fun j=>if j=p then σ i else σ j)=τ at *
 show _=eJ (p+1) ([]++jQ A τ k::nU A τ p)
 rw[qX (c':=A3 (fun j=>if j<p then 0 else Q i k) (fun j=>sumQ p fun l=>Q l k*jQ A τ l j) 1) [] _ fun j hj=>by
  show A (τ j) k=(if j<p then 0 else Q i k)+1*sumQ p fun l=>Q l k*A (τ j) l
  rw[acB]
  by_cases hjp:j<p
  ·have:=hr j (by omega) k hk1 hk2
   rw[if_pos hjp] at this ⊢;rw[hτ j hjp,this]
   congr 1
   exact bU fun l _=>adw _ _
  ·obtain rfl:j=p:=by omega
   have:=hr i hi2 k hk1 hk2;rw[if_neg (by omega)] at this;rw[if_neg hjp,hτp,this]
   congr 1
   exact bU fun l _=>adw _ _]
 rw[mH,nT,gQ fun l hl=>by
  rw[uQ (by rw[acE];exact adx (mem_revL.2 hl))];exact aci _]
 rw[acE,BK fun i hi=>if_pos hi,if_neg (by omega),EL fun j hj=>(hτ j hj).symm]
 grind
theorem JK (n:Nat) (X Y:List Col) (x:Col) (a:Rat):eJ n (X++(fun i=>a*x i)::Y)=a*eJ n (X++x::Y):=by
 have:=nT n X Y (fun _=>a) (fun _=>x) 1;simp only[sumQ] at this;rw[adz] at this;rw[←this];exact qX X Y fun i _=>(adz _).symm
theorem rJ (n:Nat) (D:Nat→Rat) (C:Nat→Col):∀ (L:List Nat) (X:List Col),∃ a:Rat,((∀ k∈L,D k≠0)→a≠0)∧eJ n (X++L.map fun k=>fun i=>D k*C k i)=a*eJ n (X++L.map C)
 | [],X=>⟨1,fun _=>by decide,by rw[acB];rfl⟩
 | k::L,X=>by
  obtain⟨a,h1,h2⟩:=rJ n D C L (X++[C k]);refine⟨D k*a,fun h=>?_,?_⟩
  ·intro h0
   rcases Rat.mul_eq_zero.1 h0 with h0 | h0
   ·exact h k acw h0
   ·exact h1 (fun m hm=>h m (acx _ hm)) h0
  ·simp only[acu,acD,acz,acE] at h2 ⊢
   rw[JK,h2,Rat.mul_assoc]
structure Scaled (N:Nat) (A:Mat) (b v:Nat):Prop where
 ex:∃ D:Nat→Nat,(∀ k,k≤N→0<D k∧D k≤2^(if k<N then b else v)∧∀ i,i<N→IZ (2^(if k<N then b else v)) (D k*A i k))
theorem z6 {α:Type} (f:α→Col) (x:α→Nat):∀ L:List α,jF (L.map fun k=>(f k,2^x k))=2^(L.map x).sum
 | []=>rfl
 | k::L=>by simp only[acu,jF,z6 f x L,adA,ads]
theorem Ky (x:Nat→Nat) (k b:Nat):∀ L:List Nat,(∀ m∈L,m≠k→x m≤b)→(L.map x).sum≤L.length*b+L.count k*x k
 | [],_=>by simp
 | m::L,h=>by
  have ih:=Ky x k b L fun n hn=>h n (acx _ hn)
  simp only[acu,adA,acy,acM]
  by_cases hm:m=k
  ·subst hm
   rw[ady,acM];omega
  ·rw[List.count_cons_of_ne hm]
   have:=h m acw hm;omega
theorem tZ {N n c b v:Nat} {A:Mat} (hM:N^N≤2^c) (hn:n≤N) (hA:∀ k,k≤N→∀ i,i<N→IZ (2^(if k<N then b else v)) (A i k)) {σ:Nat→Nat} (hσ:∀ i,i<n→σ i<N) (L:List Nat) (hL:L.length≤N) (k:Nat) (hk:k≤N) (hm:∀ m∈L,m≠k→m<N) (hc:L.count k≤1) (e:Nat) (he:c+N*b+(if k<N then b else v)≤e) :
  IZ (2^e) (eJ n (L.map (jQ A σ))):=by
 let x:Nat→Nat:=fun k=>if k<N then b else v
 have h1:=Jk N n (L.map fun k=>(jQ A σ k,2^x k)) (fun p hp i hi=>by
  obtain⟨m,hmm,rfl⟩:=List.mem_map.1 hp
  have hmN:m≤N:=by
   by_cases hmk:m=k
   ·omega
   ·have:=hm m hmm hmk;omega
  exact hA m hmN (σ i) (hσ i hi)) (by rw[ac7];exact hL)
 rw[acI,z6] at h1;have hf:((fun p:Col × Nat=>p.1) ∘ fun k=>(jQ A σ k,2^x k))=jQ A σ:=rfl;rw[hf] at h1;refine h1.mono ?_
 have h2:=Ky x k b L fun m hmm hmk=>by
  show (if m<N then b else v)≤b;rw[if_pos (hm m hmm hmk)];exact acj _
 have h3:N^n≤2^c:=by
  rcases adr N with h0 | h0
  ·subst h0
   obtain rfl:n=0:=by omega
   exact hM
  ·exact adm (adl h0 hn) hM
 have h4:L.length*b≤N*b:=acT _ hL
 have h5:L.count k*x k≤x k:=by
  have:L.count k=0∨L.count k=1:=by omega
  rcases this with h | h<;>rw[h]<;>omega
 have h6:x k=if k<N then b else v:=rfl
 rw[←h6] at he
 calc N^n*2^(L.map x).sum≤2^c*2^(N*b+x k):=acL h3 (adl (by omega) (by omega))
  _=2^(c+(N*b+x k)):=by rw[←ads]
  _≤2^e:=adl (by omega) (by omega)
theorem DI.sz {N p c b v:Nat} {A Q:Mat} (hM:N^N≤2^c) (hA:Scaled N A b v) (h:DI N A Q p) (hp:p≤N) {i k:Nat} (hi:i<N) (hk1:p≤k) (hk2:k≤N):szR (c+(N+1)*b+(if k<N then b else v)) (Q i k):=by
 obtain⟨σ,hσ,hr,hd⟩:=h;obtain⟨D,hD⟩:=hA
 have hD0:∀ m,m≤N→((D m:Nat):Rat)≠0:=fun m hm=>by
  have:=(hD m hm).1;rw[Ne,adB];omega
 -- the scaled matrix
 have hr2:Fe N (fun i k=>D k*A i k) (fun l k=>if l<p then D k*Q l k / D l else D k*Q l k) σ p:=by
  intro i hi k hk1 hk2;have:=hr i hi k hk1 hk2
  show (D k:Rat)*A (σ i) k=_;rw[this,adC,←mG]
  congr 1
  ·split<;>grind
  ·refine bU fun l hl=>?_
   dsimp only;rw[if_pos hl];have:=hD0 l (by omega);grind
 have hd2:eJ p (nU (fun i k=>D k*A i k) σ p)≠0:=by
  obtain⟨a,h1,h2⟩:=rJ p (fun k=>(D k:Rat)) (jQ A σ) (jD p) [];have hcol:nU (fun i k=>D k*A i k) σ p=(jD p).map fun k=>fun i=>(D k:Rat)*jQ A σ k i:=rfl
  rw[acE,acE] at h2;rw[hcol,h2];intro h0;rcases Rat.mul_eq_zero.1 h0 with h0 | h0
  ·exact h1 (fun m hm=>hD0 m (by have:=mem_revL.1 hm;omega)) h0
  ·exact hd h0
 have hA2:∀ k,k≤N→∀ i,i<N→IZ (2^(if k<N then b else v)) ((fun i k=>(D k:Rat)*A i k) i k):=fun k hk i hi=>(hD k hk).2.2 i hi
 generalize hA2d:(fun (i k:Nat)=>(D k:Rat)*A i k)=A2 at *
 have hden:IZ (2^(c+N*b+b)) (eJ p (nU A2 σ p)):=by
  rcases adr N with h0 | h0
  ·omega
  ·refine tZ hM hp hA2 (fun i hi=>hσ i (by omega)) (jD p) (by rw[nS];exact hp) 0 (by omega) (fun m hm _=>by have:=mem_revL.1 hm;omega) ?_ _ (by rw[if_pos h0];exact acj _)
   have:∀ p,(jD p).count 0≤1:=by
    intro p
    induction p with
    | zero=>simp [jD]
    | succ p ih =>
     simp only[jD];rw[adD]
     by_cases hp0:p=0
     ·subst hp0;simp [jD]
     ·rw[if_neg (by simpa using hp0)];exact ih
   exact this p
 obtain⟨d,hdz,hdb⟩:=hden
 have hd0:d≠0:=by
  intro h0;rw[hdz,h0] at hd2;exact hd2 (by rfl)
 obtain⟨hDk0,hDkb,-⟩:=hD k hk2;have hsum:(N+1)*b=N*b+b:=acM N b
 by_cases hip:i<p
 ·obtain⟨L,hL1,hL2,hL3,hL4⟩:=zH hr2 hp hip hk1 hk2
  obtain⟨m,hmz,hmb⟩:=tZ hM hp hA2 (fun i hi=>hσ i (by omega)) L (by omega) k hk2 (fun m hm hmk=>by rcases hL2 m hm with h | h<;>omega) hL3 _ (acj _);rw[if_pos hip,hmz,hdz] at hL4;have hi0:=hD0 i (by omega)
  have he:Q i k*(((D k:Int)*d:Int):Rat)=(((D i:Int)*m:Int):Rat):=by
   rw[acJ,acJ,←hL4,adE,adE];grind
  obtain⟨f1,f2⟩:=fI (adv (by omega) hd0) he;obtain⟨-,hDib,-⟩:=hD i (by omega);rw[if_pos hi] at hDib;refine⟨adm f1 ?_,adm f2 ?_⟩
  ·rw[acK,adq]
   refine adm (acL hDib hmb) ?_;rw[←ads];exact adl (by omega) (by omega)
  ·rw[acK,adq]
   refine adm (acL hDkb hdb) ?_;rw[←ads];exact adl (by omega) (by omega)
 ·have hL4:=IF hr2 (by omega) hi hk1 hk2
  have hτ:∀ j,j<p+1→(fun j=>if j=p then σ i else σ j) j<N:=fun j hj=>by
   show (if j=p then σ i else σ j)<N
   split
   ·exact hσ i hi
   ·exact hσ j (by omega)
  obtain⟨m,hmz,hmb⟩:=tZ (n:=p+1) hM (by omega) hA2 hτ (k::jD p) (by rw[acy,nS];omega) k hk2 (fun m hm hmk=>by
   rcases List.mem_cons.1 hm with h | h
   ·exact absurd h hmk
   ·have:=mem_revL.1 h;omega) (by rw[ady,List.count_eq_zero.2 fun hz=>by have:=mem_revL.1 hz;omega];omega) _ (acj _)
  rw[if_neg hip,hmz,hdz] at hL4
  have he:Q i k*(((D k:Int)*d:Int):Rat)=((m:Int):Rat):=by
   rw[acJ,←hL4,adE];grind
  obtain⟨f1,f2⟩:=fI (adv (by omega) hd0) he;refine⟨adm f1 (adm hmb ?_),adm f2 ?_⟩
  ·exact adl (by omega) (by omega)
  ·rw[acK,adq]
   refine adm (acL hDkb hdb) ?_;rw[←ads];exact adl (by omega) (by omega)
theorem DI.cd {N c b v:Nat} {A Q:Mat} (hM:N^N≤2^c) (hA:Scaled N A b v) (h:DI N A Q N):∃ M:Nat,0<M∧M≤2^(c+(N+1)*b+v)∧∀ i,i<N→∃ z:Int,Q i N*(M:Rat)=(z:Rat):=by
 obtain⟨p,hpN⟩:∃ p,p=N:=⟨N,rfl⟩;have hp:p≤N:=by omega
 have h:DI N A Q p:=by rw[hpN];exact h
 obtain⟨σ,hσ,hr,hd⟩:=h;obtain⟨D,hD⟩:=hA
 have hD0:∀ m,m≤N→((D m:Nat):Rat)≠0:=fun m hm=>by
  have:=(hD m hm).1;rw[Ne,adB];omega
 -- the scaled matrix
 have hr2:Fe N (fun i k=>D k*A i k) (fun l k=>if l<p then D k*Q l k / D l else D k*Q l k) σ p:=by
  intro i hi k hk1 hk2;have:=hr i hi k hk1 hk2
  show (D k:Rat)*A (σ i) k=_;rw[this,adC,←mG]
  congr 1
  ·split<;>grind
  ·refine bU fun l hl=>?_
   dsimp only;rw[if_pos hl];have:=hD0 l (by omega);grind
 have hd2:eJ p (nU (fun i k=>D k*A i k) σ p)≠0:=by
  obtain⟨a,h1,h2⟩:=rJ p (fun k=>(D k:Rat)) (jQ A σ) (jD p) [];have hcol:nU (fun i k=>D k*A i k) σ p=(jD p).map fun k=>fun i=>(D k:Rat)*jQ A σ k i:=rfl
  rw[acE,acE] at h2;rw[hcol,h2];intro h0;rcases Rat.mul_eq_zero.1 h0 with h0 | h0
  ·exact h1 (fun m hm=>hD0 m (by have:=mem_revL.1 hm;omega)) h0
  ·exact hd h0
 have hA2:∀ k,k≤N→∀ i,i<N→IZ (2^(if k<N then b else v)) ((fun i k=>(D k:Rat)*A i k) i k):=fun k hk i hi=>(hD k hk).2.2 i hi
 generalize hA2d:(fun (i k:Nat)=>(D k:Rat)*A i k)=A2 at *
 have hden:IZ (2^(c+N*b+b)) (eJ p (nU A2 σ p)):=by
  rcases adr N with h0 | h0
  ·have hp0:p=0:=by omega
   subst hp0;exact⟨1,by rfl,adF⟩
  ·refine tZ hM hp hA2 (fun i hi=>hσ i (by omega)) (jD p) (by rw[nS];exact hp) 0 (by omega) (fun m hm _=>by have:=mem_revL.1 hm;omega) ?_ _ (by rw[if_pos h0];exact acj _)
   have:∀ p,(jD p).count 0≤1:=by
    intro p
    induction p with
    | zero=>simp [jD]
    | succ p ih =>
     simp only[jD];rw[adD]
     by_cases hp0:p=0
     ·subst hp0;simp [jD]
     ·rw[if_neg (by simpa using hp0)];exact ih
   exact this p
 obtain⟨d,hdz,hdb⟩:=hden
 have hd0:d≠0:=by
  intro h0;rw[hdz,h0] at hd2;exact hd2 (by rfl)
 obtain⟨hDk0,hDkb,-⟩:=hD N (acj _);have hsum:(N+1)*b=N*b+b:=acM N b;rw[if_neg (by omega)] at hDkb
 have hcast:∃ s:Int,(s=1∨s = -1)∧(((D N:Int)*d).natAbs:Int)=s*((D N:Int)*d):=by
  rcases Int.natAbs_eq ((D N:Int)*d) with e | e
  ·exact⟨1,.inl rfl,by omega⟩
  ·exact⟨-1,.inr rfl,by omega⟩
 obtain⟨s,-,hs⟩:=hcast;have h0:(D N:Int)*d≠0:=adv (by omega) hd0;refine⟨((D N:Int)*d).natAbs,Int.natAbs_pos.2 h0,?_,fun i hi=>?_⟩
 ·rw[acK,adq]
  refine adm (acL hDkb hdb) ?_;rw[←ads];exact adl (by omega) (by omega)
 ·obtain⟨L,hL1,hL2,hL3,hL4⟩:=zH hr2 hp (by omega:i<p) (by omega:p≤N) (acj N)
  obtain⟨m,hmz,hmb⟩:=tZ hM hp hA2 (fun i hi=>hσ i (by omega)) L (by omega) N (acj _) (fun m hm hmk=>by rcases hL2 m hm with h | h<;>omega) hL3 _ (acj _);rw[if_pos (by omega),hmz,hdz] at hL4;have hi0:=hD0 i (by omega);refine⟨s*(D i*m),?_⟩;have e:((((D N:Int)*d).natAbs:Nat):Rat)=((((D N:Int)*d).natAbs:Int):Rat):=(adE _).symm;rw[e,hs,acJ,acJ,acJ,acJ,←hL4,adE,adE];grind
def bJ (N:Nat) (x:Nat→Rat):List aM:=((acm N).map x).map aj
theorem cI (N:Nat) (x:Nat→Rat):(bJ N x).length=N:=by simp [bJ]
theorem dS {N k:Nat} (x:Nat→Rat) (h:k<N):(bJ N x)[k]?=some (aj (x k)):=by
 unfold bJ;rw[acU,acU,acV h];rfl
theorem pL {N:Nat} {l:List aM} {x:Nat→Rat} (hl:l.length=N) (h:∀ k,k<N→l[k]?=some (aj (x k))):l=bJ N x:=by
 apply acW;intro k;rcases acC k N with hk | hk
 ·rw[h k hk,dS x hk]
 ·rw[acX (by omega),acX (by rw[cI];omega)]
theorem jk {N:Nat} {x y:Nat→Rat} (h:∀ k,k<N→x k=y k):bJ N x=bJ N y :=
 pL (cI N x) fun k hk=>by rw[dS x hk,h k hk]
theorem sU {N:Nat} {x:Nat→Rat} (hN:N≤40) (h:∀ k,k<N→cm (x k)):okL (bJ N x):=by
 refine⟨by rw[cI];omega,fun f hf=>?_⟩
 obtain⟨k,hk⟩:=List.mem_iff_getElem?.1 hf;have hkN:k<N:=by have:=(List.getElem?_eq_some_iff.1 hk).1;rwa [cI] at this
 rw[dS x hkN] at hk
 cases hk;exact eC (h k hkN)
def MX (N:Nat) (M:Mat) (x:Nat→Rat):Prop:=(∀ y,Ann N M (ext N y (-1))↔∀ k,k<N→y k=x k)∧∀ y,Ann N M (ext N y 0)→∀ k,k<N→y k=0
def Sing (N:Nat) (M:Mat):Prop:=∃ y,Ann N M (ext N y 0)∧∃ k,k<N∧y k≠0
theorem FT {N:Nat} {rows:List MR} {Q:Mat} (h:EncM N rows Q):rows.map (jU N)=bJ N (fun i=>Q i N) :=
 pL (by rw[ac7];exact h.1) fun k hk=>by
  obtain⟨x,hx,-,vx⟩:=h.row hk;rw[acU,hx,ac8];unfold jU;rw[acr,vx.get (acj _)]
  rfl
theorem Elim.lim {N:Nat} {Q Q':Mat} {rows:List MR} {p c:Nat} {pv:Nat→Nat} (h:Elim N Q Q' rows p c pv) {i k:Nat} (hi:i<N) (hk:k≤N):cm (Q' i k):=by
 obtain⟨x,-,-,vx⟩:=h.enc.row hi;exact vx.2 k hk
theorem r9 {q:Rat} (h:cm q):ia 0 (-q)=true:=by
 unfold ia;simp only[acq]
 have h1:okZ ((-q).num*((0:Rat).den:Int))=true:=by
  rw[adu,adG];unfold okZ;rw[decide_eq_true_eq];have:=h.1;omega
 refine⟨?_,h1,?_,?_⟩
 ·rw[adH,adI];decide +kernel
 ·rw[adH,adI,Int.zero_add];exact h1
 ·rw[adG,Rat.neg_den]
  unfold okZ;rw[decide_eq_true_eq];have:=h.2;omega
theorem ws:cm 0:=⟨by decide +kernel,by decide +kernel⟩
theorem Mt {N f:Nat} {rows:List MR} {Q:Mat} (h:EncM N rows Q) (hf:f<N):H0 rows f N f=bJ N (pR Q f) :=
 pL (Jh _ _ _ _) fun k hk=>by
  unfold H0;rw[acU,acV hk,ac8];unfold pR
  by_cases h1:k<f
  ·rw[if_pos h1,if_pos h1]
   obtain⟨x,-,ex,vx⟩:=h.row (i:=k) (by omega);rw[ex,vx.cell (by omega),←vP,qL ws (vx.2 f (by omega)),r9 (vx.2 f (by omega))]
   rfl
  ·rw[if_neg h1,if_neg h1]
   by_cases h2:k=f
   ·rw[if_pos h2,if_pos h2,IX]
   ·rw[if_neg h2,if_neg h2,vP]
theorem xX {N:Nat} {M Q:Mat} (h:∀ y,Ann N Q y↔Ann N M y):∀ y z,Ann N Q (ext N y z)↔Ann N M (ext N y z):=fun _ _=>h _
theorem AB {rs:List cG} {n:Int} (h:fB rs n=true) :
  (gX rs n=([],6)) ∨
  (∃ x,gX rs n=(bJ rs.length x,0)∧Io rs n=([],false)∧(∀ k,k<rs.length→cm (x k))∧MX rs.length (ka rs) x) ∨
  (∃ y,gX rs n=([],17)∧Io rs n=(bJ rs.length y,true)∧(∀ k,k<rs.length→cm (y k))∧Ann rs.length (ka rs) (ext rs.length y 0)∧∃ k,k<rs.length∧y k=1):=by
 unfold gX Io;rw[if_pos h];rcases hx:j5 true rs with ⟨rows',free',bad⟩
 cases bad
 ·right
  obtain⟨Q,p,c,pv,he,-,hs⟩:=B3 true h hx;rw[if_pos h];rcases hs rfl with ⟨rfl,rfl,rfl,hpv⟩ | ⟨f,rfl,hf,rfl,rfl,hpv,hz⟩
  ·left
   refine⟨fun i=>Q i rs.length,?_,rfl,fun k hk=>he.lim hk (acj _),fun y=>?_,fun y hy=>?_⟩
   ·rw[if_neg (by simp),if_neg (by simp),FT he.enc]
   ·rw[←xX he.ann]
    exact qO he.red hpv y
   ·exact AP he.red hpv y ((xX he.ann y 0).2 hy)
  ·right
   refine⟨pR Q c,?_,?_,fun k hk=>?_,?_,⟨c,hf,by unfold pR;simp⟩⟩
   ·rw[if_neg (by simp),if_pos (by simp)]
   ·rw[if_neg (by simp)]
    exact congrArg (fun l=>(l,true)) (Mt he.enc hf)
   ·unfold pR
    split
    ·exact Ee (r9 (he.lim hk (by omega)))
    ·split
     ·exact⟨by decide +kernel,by decide +kernel⟩
     ·exact ws
   ·exact (xX he.ann _ _).1 (uB he.red hpv hf hz)
 ·left
  rw[if_pos rfl]
theorem As (Q:Mat) {N p s:Nat} (hp:p<N) (hs:p≤s) (hsN:s<N) {i:Nat} (hi:i<N):∃ i',i'<N∧dc Q p s i=Q i':=by
 unfold dc
 by_cases h1:i=s
 ·exact⟨p,hp,by rw[if_pos h1]⟩
 ·by_cases h2:i=p
  ·exact⟨s,hsN,by rw[if_neg h1,if_pos h2]⟩
  ·exact⟨i,hi,by rw[if_neg h1,if_neg h2]⟩
theorem Mi (b:Nat) (p:Prop) [Decidable p]:szR b (if p then 1 else 0):=by
 have hb:1≤2^b:=adF
 split
 ·exact⟨hb,hb⟩
 ·exact⟨adJ _,hb⟩
theorem DI.all {N p c b v:Nat} {A Q:Mat} {pv:Nat→Nat} (hM:N^N≤2^c) (hA:Scaled N A b v) (hb:b≤v) (h:DI N A Q p) (hr:Red N Q p p pv) (hpv:∀ j,j<p→pv j=j) (hp:p≤N) {i k:Nat} (hi:i<N) (hk:k≤N):szR (c+(N+1)*b+v) (Q i k):=by
 by_cases hkp:k<p
 ·have:=hr.unit k hkp i hi
  rw[hpv k hkp] at this;rw[this];exact Mi _ _
 ·refine (h.sz hM hA hp hi (by omega) hk).mono ?_
  split<;>omega
theorem F8 {N p s c b v:Nat} {A Q:Mat} {pv:Nat→Nat} (hM:N^N≤2^c) (hA:Scaled N A b v) (hb:b≤v) (h:DI N A Q p) (hr:Red N Q p p pv) (hpv:∀ j,j<p→pv j=j) (hp:p<N) (hs:p≤s) (hsN:s<N) (hne:Q s p≠0) (hlim:2*(c+(N+1)*b+v)+(c+(N+2)*b)+1<1200):M8 N (dc Q p s) p p:=by
 have h2:=h.step hp hs hsN hne;have hr2:=hr.piv hp hs hsN hne
 have hpv2:∀ j,j<p+1→(if j=p then p else pv j)=j:=fun j hj=>by
  split
  ·omega
  ·exact hpv j (by omega)
 have e1:(N+2)*b=(N+1)*b+b:=acM (N+1) b
 have hall:∀ i,i<N→∀ k,k≤N→szR (c+(N+1)*b+v) (dc Q p s i k):=by
  intro i hi k hk;obtain⟨i',h1,e⟩:=As Q hp hs hsN hi;rw[e];exact h.all hM hA hb hr hpv (by omega) h1 hk
 have hcol:∀ i,i<N→szR (c+(N+2)*b) (dc Q p s i p):=by
  intro i hi;obtain⟨i',h1,e⟩:=As Q hp hs hsN hi;rw[e];have:=h.sz hM hA (by omega) h1 (acj p) (by omega);rw[if_pos hp] at this;exact this.mono (by omega)
 have hquo:∀ k,k≤N→szR (c+(N+1)*b+v) (dc Q p s p k / dc Q p s p p):=by
  intro k hk;have:=h2.all hM hA hb hr2 hpv2 (by omega) (i:=p) hp hk;unfold mZ at this
  rwa [if_pos rfl] at this
 refine⟨fun k hk=>A6 (hall p hp k hk) (hcol p hp) (by omega),fun i hi _ _ k hk=>?_⟩
 unfold iB;rw[acq];exact⟨ud (hcol i hi) (hquo k hk) (by omega),jO (hall i hi k hk) (oK (y6 (hcol i hi) (hquo k hk))) (by omega)⟩
theorem Dw {N c b v:Nat} {A:Mat} (hM:N^N≤2^c) (hA:Scaled N A b v) (hb:b≤v) (hlim:2*(c+(N+1)*b+v)+(c+(N+2)*b)+1<1200) :
  ∀ k p rows Q pv,p+k=N→Elim N A Q rows p p pv→DI N A Q p→(∀ j,j<p→pv j=j)→(gd true k p rows [] false).2.2=false:=by
 intro k
 induction k with
 | zero=>intro p rows Q pv _ _ _ _;rfl
 | succ k ih =>
  intro p rows Q pv hp he hd hpv;unfold gd;rw[adg,Nat.sub_zero];rcases BA he.enc (r:=p) (c:=p) (by omega) (by omega) with ⟨h1,h2,h3,h4⟩ | ⟨h1,s,hs1,hs2,hs3,h4,h5⟩
  ·rw[h1,h2,h3,if_pos rfl,if_pos rfl]
  ·have hok:=F8 hM hA hb hd he.red hpv (by omega) hs1 hs2 hs3 hlim
   have hb:=h5 hok;rw[h1,if_neg (by simp),hb];refine ih (p+1) _ (mZ Q p p s) (fun j=>if j=p then p else pv j) (by omega) ⟨h4 hb,he.red.piv (by omega) hs1 hs2 hs3,fun y=>(xe (by omega) hs2 hs3).trans (he.ann y)⟩ (hd.step (by omega) hs1 hs2 hs3) fun j hj=>?_
   show (if j=p then p else pv j)=j
   split
   ·omega
   ·exact hpv j (by omega)
theorem CN {rs:List cG} {n:Int} {c b v:Nat} (h:fB rs n=true) (hM:rs.length^rs.length≤2^c) (hA:Scaled rs.length (ka rs) b v) (hb:b≤v) (hlim:2*(c+(rs.length+1)*b+v)+(c+(rs.length+2)*b)+1<1200):gX rs n≠([],6):=by
 have hx:(j5 true rs).2.2=false :=
  Dw hM hA hb hlim rs.length 0 (dq rs) (ka rs) (fun j=>j) (by omega) ⟨D7 h,ol _ _ _,fun _=>Iff.rfl⟩ (DI.start _ _) fun j hj=>by omega
 unfold gX;rw[if_pos h,if_neg (by rw[hx];simp)]
 split
 ·simp
 ·simp
theorem C6 {rs:List cG} {n:Int} {c b v:Nat} (h:fB rs n=true) (hM:rs.length^rs.length≤2^c) (hA:Scaled rs.length (ka rs) b v) (hb:b≤v) (hlim:2*(c+(rs.length+1)*b+v)+(c+(rs.length+2)*b)+1<1200) (hs:¬ Sing rs.length (ka rs)) :
  ∃ x,gX rs n=(bJ rs.length x,0)∧(∀ k,k<rs.length→cm (x k))∧MX rs.length (ka rs) x:=by
 rcases AB h with e | ⟨x,e,-,h1,h2⟩ | ⟨y,-,-,-,h1,k,hk,hy⟩
 ·exact absurd e (CN h hM hA hb hlim)
 ·exact⟨x,e,h1,h2⟩
 ·exact absurd ⟨y,h1,k,hk,by rw[hy];decide⟩ hs
theorem DI.full {N:Nat} {A:Mat} (hs:¬ Sing N A):∀ k p Q pv,p+k=N→Red N Q p p pv→(∀ y,Ann N Q y↔Ann N A y)→DI N A Q p→(∀ j,j<p→pv j=j)→∃ Q pv,DI N A Q N∧Red N Q N N pv∧(∀ j,j<N→pv j=j)∧∀ y,Ann N Q y↔Ann N A y
 | 0,p,Q,pv,hp,hr,ha,hd,hpv=>by
  obtain rfl:p=N:=by omega
  exact⟨Q,pv,hd,hr,hpv,ha⟩
 | k+1,p,Q,pv,hp,hr,ha,hd,hpv=>by
  by_cases hz:∀ i,p≤i→i<N→Q i p=0
  ·exfalso
   refine hs ⟨pR Q p,(ha _).1 (uB hr hpv (by omega) hz),p,by omega,?_⟩
   unfold pR;rw[if_neg (by omega),if_pos rfl]
   decide
  ·have⟨s,hs1,hs2,hs3⟩:∃ s,p≤s∧s<N∧Q s p≠0:=by
    apply ach;intro h;exact hz fun i h1 h2=>ach fun h3=>h ⟨i,h1,h2,h3⟩
   refine DI.full hs k (p+1) (mZ Q p p s) (fun j=>if j=p then p else pv j) (by omega) (hr.piv (by omega) hs1 hs2 hs3) (fun y=>(xe (by omega) hs2 hs3).trans (ha y)) (hd.step (by omega) hs1 hs2 hs3) fun j hj=>?_
   show (if j=p then p else pv j)=j
   split
   ·omega
   ·exact hpv j (by omega)
theorem Ih {N c b v:Nat} {A:Mat} (hs:¬ Sing N A) (hM:N^N≤2^c) (hA:Scaled N A b v) {x:Nat→Rat} (hx:Ann N A (ext N x (-1))):∃ M:Nat,0<M∧M≤2^(c+(N+1)*b+v)∧∀ i,i<N→∃ z:Int,x i*(M:Rat)=(z:Rat):=by
 obtain⟨Q,pv,⟨σ,h1,h2,h3⟩,-⟩:=DI.full hs N 0 A (fun j=>j) (by omega) (ol _ _ _) (fun _=>Iff.rfl) (DI.start _ _) (fun j hj=>by omega);refine DI.cd (Q:=fun i _=>x i) hM hA ⟨σ,h1,fun i hi k hk1 hk2=>?_,h3⟩
 obtain rfl:k=N:=by omega
 rw[if_pos hi];have:=hx (σ i) (h1 i hi);rw[qP] at this;grind
theorem Aq {N:Nat} {A:Mat} (hs:¬ Sing N A):∃ x,Ann N A (ext N x (-1)):=by
 obtain⟨Q,pv,-,h1,h2,h3⟩:=DI.full hs N 0 A (fun j=>j) (by omega) (ol _ _ _) (fun _=>Iff.rfl) (DI.start _ _) (fun j hj=>by omega);exact⟨fun i=>Q i N,(h3 _).1 ((qO h1 h2 _).2 fun _ _=>rfl)⟩
end Go.Mini
namespace Go.Mini
open Classical
noncomputable def Day.W (d:Day) (f:Nat→Nat) (k i:Nat):Rat:=sumC d.cl fun c=>if c.to=(i:Int)∧c.fr=k∧c.rk=f k then d.w c else 0
noncomputable def Day.st (d:Day) (f:Nat→Nat) (i:Nat):Rat:=d.cash i+sumC d.cl fun c=>if c.to=(i:Int)∧c.rk<f c.fr then c.am else 0
theorem Day.OK.sum_W {d:Day} (hd:d.OK) (f:Nat→Nat) (P:Nat→Prop) (x:Nat→Rat) (i:Nat):(sumC d.cl fun c=>if c.to=(i:Int) then (if c.rk=f c.fr∧P c.fr then d.w c*x c.fr else 0) else 0)=sumQ d.n fun k=>if P k then d.W f k i*x k else 0:=by
 have e:=De (n:=d.n) hd.fr fun k c=>if c.to=(i:Int) then (if c.rk=f k∧P k then d.w c*x k else 0) else 0
 rw[←e];refine bU fun k hk=>?_
 by_cases hP:P k
 ·rw[if_pos hP,adw]
  unfold Day.W;rw[←pY];refine d8 fun c _=>?_
  by_cases h1:c.fr=k
  ·by_cases h2:c.to=(i:Int)
   ·by_cases h3:c.rk=f k
    ·rw[if_pos h1,if_pos h2,if_pos ⟨h3,hP⟩,if_pos ⟨h2,h1,h3⟩,adw]
    ·rw[if_pos h1,if_pos h2,if_neg fun h=>h3 h.1,if_neg fun h=>h3 h.2.2,aci]
   ·rw[if_pos h1,if_neg h2,if_neg fun h=>h2 h.1,aci]
  ·rw[if_neg h1,if_neg fun h=>h1 h.2.1,aci]
 ·rw[if_neg hP]
  refine l7 fun c _=>?_
  split
  ·split
   ·rw[if_neg fun h=>hP h.2]
   ·rfl
  ·rfl
theorem Day.OK.into_l {d:Day} (hd:d.OK) (f:Nat→Nat) (P:Nat→Prop) (h:Nat→Rat) (i:Nat):d.into (d.l f P h) i=d.st f i+sumQ d.n fun k=>if P k then d.W f k i*(h k-d.U k (f k)) else 0:=by
 rw[←hd.sum_W f P (fun k=>h k-d.U k (f k)) i];unfold Day.into Day.st;rw[Rat.add_assoc,←qv]
 congr 1
 refine d8 fun c _=>?_
 unfold Day.l
 by_cases h1:c.to=(i:Int)
 ·rw[if_pos h1,if_pos h1]
  by_cases h2:c.rk<f c.fr
  ·have h3:c.to=(i:Int)∧c.rk<f c.fr:=⟨h1,h2⟩
   have h4:¬ (c.rk=f c.fr∧P c.fr):=fun h=>by have:=h.1;omega
   rw[if_pos h2,if_pos h3,if_neg h4,adK]
  ·have h3:¬ (c.to=(i:Int)∧c.rk<f c.fr):=fun h=>h2 h.2
   rw[if_neg h2,if_neg h3,adz]
   by_cases h4:c.rk=f c.fr∧P c.fr
   ·rw[if_pos h4,if_pos h4,h4.1]
   ·rw[if_neg h4,if_neg h4]
 ·have h3:¬ (c.to=(i:Int)∧c.rk<f c.fr):=fun h=>h1 h.1
  rw[if_neg h1,if_neg h3,if_neg h1,adK]
noncomputable def Day.bigM (d:Day) (f:Nat→Nat) (P:Nat→Prop):Mat:=fun i k=>if k<d.n then (if i=k then 1 else 0)-(if P k then d.W f k i else 0) else d.st f i-sumQ d.n fun k=>if P k then d.W f k i*d.U k (f k) else 0
theorem yH {d:Day} (f:Nat→Nat) (P:Nat→Prop) (x:Nat→Rat) (z:Rat) {i:Nat} (hi:i<d.n):kJ d.n (d.bigM f P i) (ext d.n x z)=x i-(sumQ d.n fun k=>if P k then d.W f k i*x k else 0)+(d.st f i-sumQ d.n fun k=>if P k then d.W f k i*d.U k (f k) else 0)*z:=by
 rw[qP]
 congr 1
 ·have e:=i5 (n:=d.n) (f:=fun k=>if i=k then x k else 0) (j:=i) hi fun k _ hk=>if_neg (Ne.symm hk)
  rw[if_pos rfl] at e;rw[←e,←n8];refine bU fun k hk=>?_
  unfold Day.bigM;rw[if_pos hk]
  split<;>split<;>grind
 ·unfold Day.bigM
  rw[if_neg (by omega)]
theorem EV {d:Day} (hd:d.OK) (f:Nat→Nat) (P:Nat→Prop) (h:Nat→Rat):Ann d.n (d.bigM f P) (ext d.n h (-1))↔∀ i,i<d.n→h i=d.into (d.l f P h) i:=by
 have e:∀ i,(sumQ d.n fun k=>if P k then d.W f k i*(h k-d.U k (f k)) else 0)=(sumQ d.n fun k=>if P k then d.W f k i*h k else 0)-sumQ d.n fun k=>if P k then d.W f k i*d.U k (f k) else 0:=fun i=>by
  rw[←n8];refine bU fun k _=>?_
  split<;>grind
 unfold Ann
 constructor
 ·intro hA i hi
  have:=hA i hi;rw[yH f P h _ hi] at this;rw[hd.into_l,e];grind
 ·intro hA i hi
  have:=hA i hi;rw[hd.into_l,e] at this;rw[yH f P h _ hi];grind
structure Good (d:Day) (f:Nat→Nat) (P:Nat→Prop):Prop where
 ok:d.OK
 inv:∃ g,Inv d f g
 fallen:∀ i,P i→i<d.n∧f i<10
 open':∀ C:Nat→Prop,(∃ i,C i)→(∀ i,C i→P i)→¬ d.closed f C
theorem Good.hom {d:Day} {f:Nat→Nat} {P:Nat→Prop} (hg:Good d f P) {x:Nat→Rat} (hx:∀ i,i<d.n→x i=sumQ d.n fun k=>if P k then d.W f k i*x k else 0):∀ i,i<d.n→x i=0:=by
 obtain⟨g,hi⟩:=hg.inv;exact BL hi hg.ok hg.fallen hg.open' x fun i hin=>by rw[hg.ok.sum_W f P x i];exact hx i hin
theorem Good.big {d:Day} {f:Nat→Nat} {P:Nat→Prop} (hg:Good d f P):¬ Sing d.n (d.bigM f P):=by
 rintro⟨y,hy,k,hk,hne⟩;refine hne (hg.hom (x:=y) (fun i hi=>?_) k hk);have:=hy i hi;rw[yH f P y _ hi] at this;grind
theorem Good.ex {d:Day} {f:Nat→Nat} {P:Nat→Prop} (hg:Good d f P):∃ h:Nat→Rat,∀ i,i<d.n→h i=d.into (d.l f P h) i:=by
 obtain⟨x,hx⟩:=Aq hg.big;exact⟨x,(EV hg.ok f P x).1 hx⟩
theorem Good.uniq {d:Day} {f:Nat→Nat} {P:Nat→Prop} (hg:Good d f P) {h h':Nat→Rat} (e:∀ i,i<d.n→h i=d.into (d.l f P h) i) (e':∀ i,i<d.n→h' i=d.into (d.l f P h') i):∀ i,i<d.n→h i=h' i:=by
 obtain⟨g,hi⟩:=hg.inv;exact CF hi hg.ok hg.fallen hg.open' e e'
noncomputable def Day.lst (d:Day) (f:Nat→Nat) (P:Nat→Prop):Nat→Rat:=if h:∃ x:Nat→Rat,∀ i,i<d.n→x i=d.into (d.l f P x) i then acl h else fun _=>0
theorem Good.lst {d:Day} {f:Nat→Nat} {P:Nat→Prop} (hg:Good d f P):∀ i,i<d.n→d.lst f P i=d.into (d.l f P (d.lst f P)) i:=by
 have h:=hg.ex;unfold Day.lst;rw[dif_pos h];exact acn h
theorem z9 {l:List Nat} {a k:Nat} (h:k<l.length):(l++[a]).getD k 0=l.getD k 0:=by
 rw[acr,acr,adj h]
theorem IC (l:List Nat) (a:Nat) (F:Nat→Rat):sumQ (l++[a]).length (fun k=>F ((l++[a]).getD k 0))=sumQ l.length (fun k=>F (l.getD k 0))+F a:=by
 rw[List.length_append,List.length_singleton,sumQ]
 congr 1
 ·refine bU fun k hk=>?_
  rw[z9 hk]
 ·rw[acr,adk (acj _),ack];rfl
noncomputable def payers (P:Nat→Prop) (n:Nat):List Nat:=(acm n).filter fun i=>decide (P i)
theorem sP (P:Nat→Prop) (F:Nat→Rat):∀ n,sumQ (payers P n).length (fun k=>F ((payers P n).getD k 0))=sumQ n fun k=>if P k then F k else 0
 | 0=>rfl
 | n+1=>by
  have ih:=sP P F n;unfold payers at ih ⊢;rw[List.range_succ,List.filter_append]
  by_cases hP:P n
  ·rw[List.filter_cons_of_pos (by simpa using hP),adL,IC,ih,sumQ,if_pos hP]
  ·rw[List.filter_cons_of_neg (by simpa using hP),adL,List.append_nil,ih,sumQ,if_neg hP,adK]
theorem gB {P:Nat→Prop} {n k:Nat} (h:k<(payers P n).length):(payers P n).getD k 0<n∧P ((payers P n).getD k 0):=by
 have hm:(payers P n).getD k 0∈payers P n:=by
  rw[acr,acs h];exact act h
 unfold payers at hm ⊢;rw[aco,acp,decide_eq_true_eq] at hm;exact hm
noncomputable def Day.smallM (d:Day) (f:Nat→Nat) (p:List Nat):Mat:=fun i k=>if k<p.length then (if i=k then 1 else 0)-d.W f (p.getD k 0) (p.getD i 0) else d.st f (p.getD i 0)-d.U (p.getD i 0) (f (p.getD i 0))
theorem wT {d:Day} (f:Nat→Nat) (p:List Nat) (x:Nat→Rat) (z:Rat) {i:Nat} (hi:i<p.length):kJ p.length (d.smallM f p i) (ext p.length x z)=x i-(sumQ p.length fun k=>d.W f (p.getD k 0) (p.getD i 0)*x k)+(d.st f (p.getD i 0)-d.U (p.getD i 0) (f (p.getD i 0)))*z:=by
 rw[qP]
 congr 1
 ·have e:=i5 (n:=p.length) (f:=fun k=>if i=k then x k else 0) (j:=i) hi fun k _ hk=>if_neg (Ne.symm hk)
  rw[if_pos rfl] at e;rw[←e,←n8];refine bU fun k hk=>?_
  unfold Day.smallM;rw[if_pos hk]
  split<;>grind
 ·unfold Day.smallM
  rw[if_neg (by omega)]
theorem Good.small {d:Day} {f:Nat→Nat} {P:Nat→Prop} (hg:Good d f P):¬ Sing (payers P d.n).length (d.smallM f (payers P d.n)):=by
 rintro⟨y,hy,k,hk,hne⟩
 have h1:∀ r,r<(payers P d.n).length→y r=sumQ (payers P d.n).length fun k=>d.W f ((payers P d.n).getD k 0) ((payers P d.n).getD r 0)*y k:=fun r hr=>by
  have:=hy r hr;rw[wT f _ y _ hr] at this;grind
 have h2:=hg.hom (x:=fun i=>sumQ (payers P d.n).length fun k=>d.W f ((payers P d.n).getD k 0) i*y k) (fun i hi=>by
  rw[←sP P (fun k=>d.W f k i*sumQ (payers P d.n).length fun k'=>d.W f ((payers P d.n).getD k' 0) k*y k') d.n];exact bU fun r hr=>by rw[h1 r hr]) ((payers P d.n).getD k 0) (gB hk).1
 refine hne ?_;rw[h1 k hk];exact h2
theorem Good.small_sol {d:Day} {f:Nat→Nat} {P:Nat→Prop} (hg:Good d f P):Ann (payers P d.n).length (d.smallM f (payers P d.n)) (ext (payers P d.n).length (fun k=>d.lst f P ((payers P d.n).getD k 0)-d.U ((payers P d.n).getD k 0) (f ((payers P d.n).getD k 0))) (-1)):=by
 intro r hr;rw[wT f _ _ _ hr,sP P (fun k=>d.W f k ((payers P d.n).getD r 0)*(d.lst f P k-d.U k (f k))) d.n];have:=hg.lst _ (gB hr).1;rw[hg.ok.into_l] at this;grind
theorem Good.lst_pay {d:Day} {f:Nat→Nat} {P:Nat→Prop} (hg:Good d f P) {i:Nat} (hi:i<d.n):d.lst f P i=d.st f i+sumQ (payers P d.n).length fun k=>d.W f ((payers P d.n).getD k 0) i*(d.lst f P ((payers P d.n).getD k 0)-d.U ((payers P d.n).getD k 0) (f ((payers P d.n).getD k 0))):=by
 rw[sP P (fun k=>d.W f k i*(d.lst f P k-d.U k (f k))) d.n,←hg.ok.into_l];exact hg.lst i hi
theorem Pay.good {d:Day} (hd:d.OK) {f:Nat→Nat} {g:Nat→Rat} (hi:Inv d f g) {P:Nat→Prop} {h:Nat→Rat} (hp:Pay d f g P h):Good d f P:=⟨hd,⟨g,hi⟩,hp.fallen,hp.open'⟩
theorem Good.none {d:Day} (hd:d.OK) {f:Nat→Nat} {g:Nat→Rat} (hi:Inv d f g):Good d f fun _=>False:=⟨hd,⟨g,hi⟩,fun _ h=>h.elim,fun _ ⟨i,h⟩ h'=>(h' i h).elim⟩
theorem Pay.first {d:Day} (hd:d.OK) {f:Nat→Nat} {g:Nat→Rat} (hi:Inv d f g):Pay d f g (fun _=>False) (d.lst f fun _=>False):=Pay.start hd hi (Good.none hd hi).lst
theorem Pay.succ {d:Day} (hd:d.OK) {f:Nat→Nat} {g:Nat→Rat} (hi:Inv d f g) {P:Nat→Prop} {h:Nat→Rat} (hp:Pay d f g P h):Pay d f g (lf d f P h) (d.lst f (lf d f P h)):=hp.next hd hi (Good.lst ⟨hd,⟨g,hi⟩,hp.next_fallen,hp.next_open hd hi⟩)
noncomputable def idle (d:Day) (P:Nat→Prop):Nat:=kV d.n fun i=>if P i then 0 else 1
theorem D4 {d:Day} {f:Nat→Nat} {P:Nat→Prop} {h:Nat→Rat} {i:Nat} (hi:i<d.n) (hf:f i<10) (hU:d.U i (f i)<h i) (hP:¬ P i):idle d (lf d f P h)<idle d P:=by
 refine yI (j:=i) (fun j _=>?_) hi ?_
 ·by_cases hj:P j
  ·have h1:lf d f P h j:=Or.inl hj
   rw[if_pos h1,if_pos hj];exact acj _
  ·rw[if_neg hj];split<;>omega
 ·have h1:lf d f P h i:=Or.inr ⟨hi,hf,hU⟩
  rw[if_pos h1,if_neg hP];omega
theorem Pay.top {d:Day} (hd:d.OK) {f:Nat→Nat} {g:Nat→Rat} (hi:Inv d f g):∀ m (P:Nat→Prop) (h:Nat→Rat),idle d P≤m→Pay d f g P h→∃ h,IsTop d f h
 | m,P,h,hm,hp=>by
  by_cases hs:∀ i,i<d.n→f i<10→d.U i (f i)<h i→P i
  ·exact⟨h,g,hi,hp.stop hd hi hs,hp.le⟩
  ·have⟨i,h1,h2,h3,h4⟩:∃ i,i<d.n∧f i<10∧d.U i (f i)<h i∧¬ P i:=by
    apply ach;intro hn;exact hs fun i h1 h2 h3=>ach fun h4=>hn ⟨i,h1,h2,h3,h4⟩
   have hlt:=D4 (h:=h) h1 h2 h3 h4
   cases m with
   | zero=>omega
   | succ m=>exact Pay.top hd hi m _ _ (by omega) (hp.succ hd hi)
theorem OF {d:Day} (hd:d.OK) {f:Nat→Nat} (hr:Reach d f):∃ h,IsTop d f h:=by
 obtain⟨g,hi,-⟩:=hr;exact Pay.top hd hi _ _ _ (acj _) (Pay.first hd hi)
theorem Pay.is_top {d:Day} (hd:d.OK) {f:Nat→Nat} {g:Nat→Rat} (hi:Inv d f g) {P:Nat→Prop} {h:Nat→Rat} (hp:Pay d f g P h) (hs:∀ i,i<d.n→f i<10→d.U i (f i)<h i→P i):∀ i,i<d.n→h i=d.top f i :=
 have ht:IsTop d f h:=⟨g,hi,hp.stop hd hi hs,hp.le⟩
 ht.unique hd (Day.top_spec ⟨h,ht⟩)
end Go.Mini
namespace Go.Mini
open Classical
set_option maxRecDepth 10000
def ii:Nat→(Nat→Nat)→Nat
 | 0,_=>1
 | n+1,D=>ii n D*D n
theorem rt {n:Nat} {D:Nat→Nat} (h:∀ k,k<n→0<D k):0<ii n D:=by
 induction n with
 | zero=>exact adM
 | succ n ih=>exact Nat.mul_pos (ih fun k hk=>h k (by omega)) (h n (by omega))
theorem ub {n b:Nat} {D:Nat→Nat} (h:∀ k,k<n→D k≤2^b):ii n D≤2^(n*b):=by
 induction n with
 | zero=>simp [ii]
 | succ n ih =>
  rw[acM,ads];exact acL (ih fun k hk=>h k (by omega)) (h n (by omega))
theorem rO {n:Nat} {D:Nat→Nat} {k:Nat} (hk:k<n):∃ m,ii n D=D k*m:=by
 induction n with
 | zero=>omega
 | succ n ih =>
  by_cases hkn:k=n
  ·subst hkn;exact⟨ii k D,acS _ _⟩
  ·obtain⟨m,hm⟩:=ih (by omega)
   exact⟨m*D n,by rw[ii,hm,acN]⟩
def DenBy (M:Nat) (x:Rat):Prop:=∃ z:Int,x*(M:Rat)=(z:Rat)
theorem DenBy.add {M:Nat} {x y:Rat} (hx:DenBy M x) (hy:DenBy M y):DenBy M (x+y):=by
 obtain⟨a,ha⟩:=hx;obtain⟨b,hb⟩:=hy;exact⟨a+b,by rw[acv,←ha,←hb];grind⟩
theorem DenBy.sub {M:Nat} {x y:Rat} (hx:DenBy M x) (hy:DenBy M y):DenBy M (x-y):=by
 obtain⟨a,ha⟩:=hx;obtain⟨b,hb⟩:=hy;exact⟨a-b,by rw[acA,←ha,←hb];grind⟩
theorem DenBy.mul {M N:Nat} {x y:Rat} (hx:DenBy M x) (hy:DenBy N y):DenBy (M*N) (x*y):=by
 obtain⟨a,ha⟩:=hx;obtain⟨b,hb⟩:=hy;exact⟨a*b,by rw[acJ,←ha,←hb,adN];grind⟩
theorem DenBy.int (M:Nat) (z:Int):DenBy M (z:Rat):=⟨z*M,by rw[acJ,adE]⟩
theorem DenBy.zero (M:Nat):DenBy M 0:=⟨0,by rw[acd];rfl⟩
theorem DenBy.more {M:Nat} {x:Rat} (h:DenBy M x) (N:Nat):DenBy (M*N) x:=by
 obtain⟨a,ha⟩:=h;exact⟨a*N,by rw[acJ,←ha,adN,adE];grind⟩
theorem DenBy.of_dvd {M N:Nat} {x:Rat} (h:DenBy M x) (hd:∃ m,N=M*m):DenBy N x:=by
 obtain⟨m,rfl⟩:=hd;exact h.more m
theorem DenBy.sumC {M:Nat} {l:List Cl} {F:Cl→Rat} (h:∀ c∈l,DenBy M (F c)):DenBy M (sumC l F):=by
 induction l with
 | nil=>exact DenBy.zero M
 | cons c l ih=>exact (h c acw).add (ih fun x hx=>h x (acx _ hx))
theorem DenBy.sumQ {M n:Nat} {F:Nat→Rat} (h:∀ k,k<n→DenBy M (F k)):DenBy M (sumQ n F):=by
 induction n with
 | zero=>exact DenBy.zero M
 | succ n ih=>exact (ih fun k hk=>h k (by omega)).add (h n (by omega))
theorem DenBy.sz {M a e:Nat} {x:Rat} (h:DenBy M x) (hM:0<M) (hMa:M≤2^a) (h0:0≤x) (hx:x≤((2^e:Nat):Rat)):szR (a+e) x:=by
 obtain⟨z,hz⟩:=h;have hz0:(0:Rat)≤(z:Rat):=by rw[←hz];exact Rat.mul_nonneg h0 (by exact_mod_cast adJ M)
 have hz1:(z:Rat)≤((2^e*M:Nat):Rat):=by
  rw[←hz,adN];exact Rat.mul_le_mul_of_nonneg_right hx (by exact_mod_cast adJ M)
 have k0:0≤z:=by exact_mod_cast hz0
 have k1:z≤((2^e*M:Nat):Int):=by exact_mod_cast hz1
 obtain⟨f1,f2⟩:=fI (q:=x) (v:=z) (d:=(M:Int)) (by omega) (by rw[adE];exact hz);rw[adq] at f2;have k2:z.natAbs≤2^e*M:=by omega
 refine⟨adm f1 (adm k2 ?_),adm f2 (adm hMa (adl (by omega) (by omega)))⟩;rw[ads,acS (2^a)];exact Nat.mul_le_mul_left _ hMa
structure SmallD (cash:List Int) (cs:List ClR):Prop where
 right:dh cash cs=true
 n5:cash.length≤5
 c12:cs.length≤12
 am:∀ c∈cs,c.2.2.2≤33554432
theorem SmallD.ok {cash:List Int} {cs:List ClR} (h:SmallD cash cs):(ab cash cs).OK:=mw h.right
theorem SmallD.sum {cash:List Int} {cs:List ClR} (h:SmallD cash cs) (p:ClR→Prop) [DecidablePred p]:0≤bt cs (fun c=>if p c then c.2.2.2 else 0)∧bt cs (fun c=>if p c then c.2.2.2 else 0)≤536870912:=by
 have:=sQ (cs:=cs) (F:=fun c=>if p c then c.2.2.2 else 0) (B:=33554432) (by omega) fun c hc=>by
  have h1:=h.am c hc;have h2:=((rightD_iff.1 h.right).2.2.2 c hc).2.2.2.2.2.2.1
  try dsimp only
  split<;>omega
 have h12:=h.c12;omega
theorem SmallD.upto {cash:List Int} {cs:List ClR} (h:SmallD cash cs) (i r:Int):0≤aP cs i r∧aP cs i r≤536870912:=h.sum fun c=>c.1=i∧c.2.2.1<r
theorem CH {cash:List Int} {cs:List ClR} (h:dh cash cs=true) (i:Int) {r s:Int} (hrs:r≤s):aP cs i r≤aP cs i s:=by
 have h4:=(rightD_iff.1 h).2.2.2
 have:∀ l:List ClR,(∀ c∈l,0≤c.2.2.2)→bt l (fun c=>if c.1=i∧c.2.2.1<r then c.2.2.2 else 0)≤bt l (fun c=>if c.1=i∧c.2.2.1<s then c.2.2.2 else 0):=by
  intro l
  induction l with
  | nil=>intro _;exact Int.le_refl _
  | cons c l ih =>
   intro hl;have h1:=ih fun x hx=>hl x (acx _ hx)
   have h2:=hl c acw;simp only[bt]
   split<;>split<;>omega
 exact this cs fun c hc=>(h4 c hc).2.2.2.2.2.2.1
def SN (cs:List ClR) (k r:Nat):Nat:=(aP cs k (r+1:Nat)-aP cs k r).toNat
theorem mP {cash:List Int} {cs:List ClR} (h:dh cash cs=true) (k r:Nat):((SN cs k r:Nat):Rat)=(ab cash cs).S k r:=by
 have h1:=yA h k r;have h2:=CH h k (r:=r) (s:=(r+1:Nat)) (by omega);rw[←h1,←adE];unfold SN;rw[Int.toNat_of_nonneg (by omega)]
theorem SmallD.SN_le {cash:List Int} {cs:List ClR} (h:SmallD cash cs) (k r:Nat):SN cs k r≤2^29:=by
 have h1:=h.upto k (r+1:Nat);have h2:=h.upto k r;unfold SN;omega
def wI (cs:List ClR) (f:Nat→Nat) (k i:Nat):Int:=bt cs fun c=>if c.2.1=(i:Int)∧c.1=(k:Int)∧c.2.2.1=(f k:Int) then c.2.2.2 else 0
theorem NW {cash:List Int} {cs:List ClR} (h:dh cash cs=true) (f:Nat→Nat) {k:Nat} (i:Nat) (hS:0<(ab cash cs).S k (f k)):(ab cash cs).W f k i*(ab cash cs).S k (f k)=((wI cs f k i:Int):Rat):=by
 unfold Day.W wI
 rw[oJ cs _ (fun c=>if c.to=(i:Int)∧c.fr=k∧c.rk=f k then c.am else 0) fun c hc=>by
  have:=(rightD_iff.1 h).2.2.2 c hc
  show ((if c.2.1=(i:Int)∧c.1=(k:Int)∧c.2.2.1=(f k:Int) then c.2.2.2 else 0:Int):Rat)=if c.2.1=(i:Int)∧c.1.toNat=k∧c.2.2.1.toNat=f k then (c.2.2.2:Rat) else 0
  by_cases h1:c.2.1=(i:Int)∧c.1=(k:Int)∧c.2.2.1=(f k:Int)
  ·rw[if_pos h1,if_pos (by omega)]
  ·rw[if_neg h1,if_neg (by omega)];rfl]
 rw[adw,←pY];refine d8 fun c _=>?_
 split
 ·rename_i h1
  rw[adw];have e1:=h1.2.1;have e2:=h1.2.2;subst e1;rw[←e2] at hS ⊢;exact Day.w_S hS
 ·rw[aci]
theorem qY {cash:List Int} {cs:List ClR} (h:dh cash cs=true) (f:Nat→Nat) (i:Nat):((c8 cash cs f i:Int):Rat)=(ab cash cs).st f i:=by
 unfold c8 Day.st;rw[acv]
 congr 1
 refine oJ cs _ (fun c=>if c.to=(i:Int)∧c.rk<f c.fr then c.am else 0) fun c hc=>?_
 have:=(rightD_iff.1 h).2.2.2 c hc
 show ((if c.2.1=(i:Int)∧c.2.2.1<(f c.1.toNat:Int) then c.2.2.2 else 0:Int):Rat)=if c.2.1=(i:Int)∧c.2.2.1.toNat<f c.1.toNat then (c.2.2.2:Rat) else 0
 by_cases h1:c.2.1=(i:Int)∧c.2.2.1<(f c.1.toNat:Int)
 ·rw[if_pos h1,if_pos (by omega)]
 ·rw[if_neg h1,if_neg (by omega)];rfl
theorem SmallD.cash {cash:List Int} {cs:List ClR} (h:SmallD cash cs) (i:Nat):0≤cash.getD i 0∧cash.getD i 0≤1000000000000000:=by
 rw[acr]
 cases hi:cash[i]? with
 | none=>simp
 | some x=>exact (rightD_iff.1 h.right).2.2.1 x (adi hi)
theorem SmallD.steady {cash:List Int} {cs:List ClR} (h:SmallD cash cs) (f:Nat→Nat) (i:Nat):0≤c8 cash cs f i∧c8 cash cs f i≤1000000536870912:=by
 have h1:=h.cash i;have h2:=h.sum fun c=>c.2.1=(i:Int)∧c.2.2.1<(f c.1.toNat:Int)
 unfold c8;omega
theorem IZ.of {z:Int} {B:Nat} (h:z.natAbs≤B):IZ B (z:Rat):=⟨z,rfl,h⟩
theorem IZ.nat {z:Nat} {B:Nat} (h:z≤B):IZ B (z:Rat):=⟨z,(adE _).symm,by omega⟩
theorem OY {N:Nat} (h:N≤5):N^N≤2^12:=by
 match N,h with
 | 0,_ | 1,_ | 2,_ | 3,_ | 4,_ | 5,_=>decide
 | n+6,h=>omega
section
variable {cash:List Int} {cs:List ClR} (hs:SmallD cash cs) {f:Nat→Nat} {P:Nat→Prop} (hS:∀ k,P k→0<(ab cash cs).S k (f k))
include hs hS
theorem xQ {k:Nat} (hk:P k):0<SN cs k (f k):=by
 have h1:=hS k hk;rw[←mP hs.right] at h1
 exact_mod_cast h1
theorem Jz {k:Nat} (hk:P k) (i:Nat):((SN cs k (f k):Nat):Rat)*(ab cash cs).W f k i=((wI cs f k i:Int):Rat):=by
 rw[mP hs.right,adw];exact NW hs.right f i (hS k hk)
theorem Bc {k:Nat} (hk:P k) (i:Nat) (p:Prop) [Decidable p]:IZ (2^30) (((SN cs k (f k):Nat):Rat)*((if p then 1 else 0)-(ab cash cs).W f k i)):=by
 have e:((SN cs k (f k):Nat):Rat)*((if p then 1 else 0)-(ab cash cs).W f k i)=((if p then SN cs k (f k) else 0:Nat):Rat)-((wI cs f k i:Int):Rat):=by
  rw[←Jz hs hS hk i]
  split<;>grind
 have h1:=hs.SN_le k (f k);have h2:=hs.sum fun c=>c.2.1=(i:Int)∧c.1=(k:Int)∧c.2.2.1=(f k:Int)
 rw[e];refine ((IZ.nat (B:=2^29) ?_).sub (IZ.of (B:=2^29) ?_)).mono (by decide)
 ·split<;>omega
 ·unfold wI
  omega
theorem CA:Scaled cash.length ((ab cash cs).bigM f P) 30 210:=by
 let D:Nat→Nat:=fun k=>if P k then SN cs k (f k) else 1
 have hD1:∀ k,0<D k:=fun k=>by
  show 0<if P k then SN cs k (f k) else 1
  split
  ·exact xQ hs hS (by assumption)
  ·omega
 have hD2:∀ k,D k≤2^29:=fun k=>by
  show (if P k then SN cs k (f k) else 1)≤2^29
  split
  ·exact hs.SN_le k _
  ·decide
 have hn:=hs.n5;have hpr:ii cash.length D≤2^145:=adm (ub fun k _=>hD2 k) (adl (by omega) (by omega));refine⟨fun k=>if k<cash.length then D k else ii cash.length D,fun k hk=>?_⟩
 have hdn:(ab cash cs).n=cash.length:=rfl
 by_cases hkn:k<cash.length
 ·dsimp only
  rw[if_pos hkn,if_pos hkn];refine⟨hD1 k,adm (hD2 k) (by decide),fun i hi=>?_⟩
  unfold Day.bigM;rw[if_pos (by rw[hdn];exact hkn)]
  by_cases hP:P k
  ·have e:D k=SN cs k (f k):=if_pos hP
   rw[e,if_pos hP];exact Bc hs hS hP i _
  ·have e:D k=1:=if_neg hP
   rw[e,if_neg hP];have:(((1:Nat):Rat)*((if i=k then 1 else 0)-0))=((if i=k then 1 else 0:Nat):Rat):=by split<;>simp<;>grind
   rw[this];exact IZ.nat (by split<;>decide)
 ·dsimp only
  rw[if_neg hkn,if_neg hkn];refine⟨rt fun k _=>hD1 k,adm hpr (adl (by omega) (by omega)),fun i hi=>?_⟩
  unfold Day.bigM;rw[if_neg (by rw[hdn];exact hkn),hdn]
  have e:((ii cash.length D:Nat):Rat)*((ab cash cs).st f i-sumQ cash.length fun k=>if P k then (ab cash cs).W f k i*(ab cash cs).U k (f k) else 0)=((ii cash.length D:Nat):Rat)*(ab cash cs).st f i-sumQ cash.length fun k=>((ii cash.length D:Nat):Rat)*(if P k then (ab cash cs).W f k i*(ab cash cs).U k (f k) else 0):=by
   rw[mG];grind
  rw[e]
  have h1:IZ (2^196) (((ii cash.length D:Nat):Rat)*(ab cash cs).st f i):=by
   rw[←qY hs.right];have:=hs.steady f i;refine ((IZ.nat hpr).mul (IZ.of (B:=2^51) (by omega))).mono ?_;rw[←ads];exact acj _
  have h2:∀ k,k<cash.length→IZ (2^203) (((ii cash.length D:Nat):Rat)*(if P k then (ab cash cs).W f k i*(ab cash cs).U k (f k) else 0)):=by
   intro k hk
   by_cases hP:P k
   ·rw[if_pos hP]
    obtain⟨m,hm⟩:=rO (D:=D) hk;have hD:D k=SN cs k (f k):=if_pos hP
    have hm2:m≤2^145:=by
     refine adm ?_ hpr;rw[hm];exact Nat.le_mul_of_pos_left _ (hD1 k)
    have e2:((ii cash.length D:Nat):Rat)*((ab cash cs).W f k i*(ab cash cs).U k (f k))=((m:Nat):Rat)*((wI cs f k i:Int):Rat)*((aP cs k (f k):Int):Rat):=by
     rw[hm,hD,←Jz hs hS hP i,←d7 hs.right k (f k),adN];grind
    rw[e2];have h3:=hs.upto k (f k);have h4:=hs.sum fun c=>c.2.1=(i:Int)∧c.1=(k:Int)∧c.2.2.1=(f k:Int)
    refine (((IZ.nat hm2).mul (IZ.of (B:=2^29) (by unfold wI;omega))).mul (IZ.of (B:=2^29) (by omega))).mono ?_;rw[←ads,←ads];exact acj _
   ·rw[if_neg hP,aci];exact IZ.zero
  refine (h1.sub (IZ.sum cash.length h2)).mono ?_;have h5:cash.length*2^203≤2^3*2^203:=acT _ (by omega);rw[←ads] at h5;have h6:2^196≤2^206:=adl (by omega) (by omega);have h7:2^206+2^206=2^207:=by rw[←Nat.two_mul,acR,acS]
  have h8:2^207≤2^210:=adl (by omega) (by omega);have h9:(3:Nat)+203=206:=rfl;rw[h9] at h5;exact adm (Nat.add_le_add h6 h5) (by rw[h7];exact h8)
theorem mY (p:List Nat) (hp:∀ k,k<p.length→P (p.getD k 0)):Scaled p.length ((ab cash cs).smallM f p) 30 52:=by
 refine⟨fun k=>if k<p.length then SN cs (p.getD k 0) (f (p.getD k 0)) else 1,fun k hk=>?_⟩
 by_cases hkn:k<p.length
 ·dsimp only
  rw[if_pos hkn,if_pos hkn];refine⟨xQ hs hS (hp k hkn),adm (hs.SN_le _ _) (by decide),fun i hi=>?_⟩
  unfold Day.smallM;rw[if_pos hkn];exact Bc hs hS (hp k hkn) _ _
 ·dsimp only
  rw[if_neg hkn,if_neg hkn];refine⟨adM,adF,fun i hi=>?_⟩
  unfold Day.smallM;rw[if_neg hkn,←qY hs.right,←d7 hs.right];have h1:=hs.steady f (p.getD i 0);have h2:=hs.upto (p.getD i 0:Nat) (f (p.getD i 0))
  have e:((1:Nat):Rat)*(((c8 cash cs f (p.getD i 0):Int):Rat)-((aP cs (p.getD i 0:Nat) (f (p.getD i 0)):Int):Rat))=((c8 cash cs f (p.getD i 0)-aP cs (p.getD i 0:Nat) (f (p.getD i 0)):Int):Rat):=by
   rw[acA];have:((1:Nat):Rat)=1:=rfl;rw[this,acB]
  rw[e];exact IZ.of (by omega)
end
end Go.Mini
