/- A part of the proof. -/
import Derived.Test.YtdbkjjoedjfmpaaGreatM13
import Derived.Test.YtdbkjjoedjfmpaaGreatM12
set_option linter.unusedSimpArgs false
set_option linter.unusedVariables false
open Nat renaming le_refl → ahk, sub_self → aho, le_trans → ahC, mul_one → ahL, reduceEqDiff → ahO, zero_le → ah7
open List renaming range → ahl, getD_eq_getElem?_getD → ahm, getElem?_append_right → ahn, getElem?_append_left → ahp, length_append → ahq, length_singleton → ahr, filter_append → ahs, filter_cons_of_pos → aht, filter_nil → ahu, filter_cons_of_neg → ahv, append_nil → ahw, eq_nil_or_concat → ahx, concat_eq_append → ahy, map_congr_left → ahz, map_append → ahA, length_map → ahB, length_filter_le → ahD, length_range → ahE, take_zero → ahF, getElem?_eq_getElem → ahI, mem_of_getElem? → ahJ, take_add_one → ahK, getElem?_map → ahM, take_of_length_le → ahN, foldl_append → ahT, mem_map_of_mem → ahV, map_nil → ahW, getElem?_cons_zero → ah2, getElem?_cons_succ → ah4, take_succ_cons → ah5, drop_succ_cons → ah8, map_cons → ah9, drop_zero → aia, mapM_cons → aib, length_cons → aic, map_map → aid, any_eq_false → aih, map_id → aij, mem_cons_of_mem → aik, mem_cons_self → ail
open Bool renaming false_eq_true → ahG, not_true → ahS, and_eq_true → ahZ, and_false → ah1, false_and → ah3, not_false → ah6, not_eq_true' → aii, true_and → aim
open Decidable renaming em → ahH
open Option renaming map_some → ahP, bind_some → ahX, bind_none → aie
open Int renaming toNat_natCast → ahQ, reduceLE → aif, reduceToNat → aig
open Prod renaming ext → ahR
open Rat renaming add_zero → ahU, intCast_natCast → ahY, intCast_mul → ah0
namespace Go.Mini
open Go
set_option maxRecDepth 10000
set_option maxHeartbeats 4000000
theorem tg {kx gx n:Nat} (key:Nat→Nat) (q':Nat→MV) (hkx:∀ i,i<n→key i≠kx) (hkk:∀ i j,i<n→j<n→key i=key j→i=j):∀ r d (q:Nat→MV) (m:Mem),d+r=n→m kx=some (gx,fL n q)→(∀ i,i<d→q i=q' i) →
  (∀ i,d≤i→i<n→q i=q' i∨∃ g sz len cs x,q i = .ref (key i) g sz 0 len∧m (key i)=some (g,cs)∧(∀ m2:Mem,m2 (key i)=some (g,cs)→toD 1 m2 (.ref (key i) g sz 0 len)=some x)∧q' i = .dat x) →
  ∃ m',Moves m m'∧m' kx=some (gx,fL n q')∧∀ k:Nat,k≠kx→(∀ i,i<n→k≠key i)→m' k=m k
 | 0,d,q,m,hd,h1,h2,_=>⟨m,.refl m,by rw[h1,ca fun i hi=>h2 i (by omega)],fun _ _ _=>rfl⟩
 | r+1,d,q,m,hd,h1,h2,h3=>by
  rcases h3 d (ahk _) (by omega) with he | ⟨g,sz,len,cs,x,e1,e2,e3,e4⟩
  ·obtain⟨m',k1,k2,k3⟩:=tg key q' hkx hkk r (d+1) q m (by omega) h1 (fun i hi=>by
    by_cases hid:i=d
    ·rw[hid];exact he
    ·exact h2 i (by omega)) fun i hi hin=>h3 i (by omega) hin
   exact⟨m',k1,k2,k3⟩
  ·have hdn:d<n:=by omega
   have hget:(fL n q)[d]?=some (.ref (key d) g sz 0 len):=by rw[cX q hdn,e1]
   have hstep:=MoveS.mfrz kx gx _ d (key d) g sz 0 len cs x h1 hget e2 (hkx d hdn) (e3 m e2);have hnew:ay (kill m (key d)) kx gx ((fL n q).set d (.dat x)) kx=some (gx,fL n fun j=>if j=d then .dat x else q j):=by rw[cn,nc]
   obtain⟨m',k1,k2,k3⟩:=tg key q' hkx hkk r (d+1) (fun j=>if j=d then .dat x else q j) _ (by omega) hnew (fun i hi=>by
    by_cases hid:i=d
    ·rw[if_pos hid,hid,e4]
    ·rw[if_neg hid];exact h2 i (by omega)) fun i hi hin=>by
     rw[if_neg (by omega)];rcases h3 i (by omega) hin with he | ⟨g',sz',len',cs',x',f1,f2,f3,f4⟩
     ·exact .inl he
     ·refine .inr ⟨g',sz',len',cs',x',f1,?_,f3,f4⟩
      rw[aJ (hkx i hin)];unfold kill;rw[aJ fun hh=>by have:=hkk i d hin hdn hh;omega]
      exact f2
   refine⟨m',.step hstep k1,k2,fun k hk hki=>?_⟩
   rw[k3 k hk hki,aJ hk];unfold kill;rw[aJ (hki d hdn)]
def plc (l:List ClR) (i:Nat):List Nat:=(ahl l.length).filter fun j=>(l.getD j zC).1==(i:Int)
theorem xE (l:List ClR) (c:ClR) (i:Nat):plc (l++[c]) i=if c.1=(i:Int) then plc l i++[l.length] else plc l i:=by
 unfold plc;have e1:(l++[c]).getD l.length zC=c:=by rw[ahm,ahn (ahk _),aho];rfl
 have e2:(ahl l.length).filter (fun j=>((l++[c]).getD j zC).1==(i:Int))=(ahl l.length).filter fun j=>(l.getD j zC).1==(i:Int):=List.filter_congr fun j hj=>by
  rw[ahm,ahp (List.mem_range.1 hj),←ahm]
 rw[ahq,ahr,List.range_succ,ahs,e2]
 by_cases h:c.1=(i:Int)
 ·rw[if_pos h,aht (by rw[e1];simpa using h),ahu]
 ·rw[if_neg h,ahv (by rw[e1];simpa using h),ahu,ahw]
theorem plc_mem {l:List ClR} {i j:Nat}:j∈plc l i↔j<l.length∧(l.getD j zC).1=(i:Int):=by
 unfold plc;rw[List.mem_filter,List.mem_range,beq_iff_eq]
theorem xZ (l:List ClR) (c:ClR) (i:Nat):bh (l++[c]) i=if c.1=(i:Int) then bh l i++[c] else bh l i:=by
 unfold bh;rw[ahs]
 by_cases h:c.1=(i:Int)
 ·rw[if_pos h,aht (by simpa using h),ahu]
 ·rw[if_neg h,ahv (by simpa using h),ahu,ahw]
theorem ES (l:List ClR) (i:Nat):bh l i=(plc l i).map fun j=>l.getD j zC:=by
 have:∀ n (l:List ClR),l.length=n→bh l i=(plc l i).map fun j=>l.getD j zC:=by
  intro n
  induction n with
  | zero =>
   intro l hl;have:l=[]:=List.length_eq_zero_iff.1 hl;subst this;rfl
  | succ n ih =>
   intro l hl;rcases ahx l with h0 | ⟨l',c,rfl⟩
   ·subst h0;cases hl
   ·rw[ahy] at *
    simp only[ahq,ahr] at hl;have e1:(l'++[c]).getD l'.length zC=c:=by rw[ahm,ahn (ahk _),aho];rfl
    have e2:(plc l' i).map (fun j=>(l'++[c]).getD j zC)=(plc l' i).map fun j=>l'.getD j zC:=ahz fun j hj=>by
     rw[ahm,ahp (plc_mem.1 hj).1,←ahm]
    rw[xZ,xE]
    by_cases h:c.1=(i:Int)
    ·rw[if_pos h,if_pos h,ahA,e2,ih l' (by omega)]
     show _=_++[(l'++[c]).getD l'.length zC];rw[e1]
    ·rw[if_neg h,if_neg h,e2,ih l' (by omega)]
 exact this _ l rfl
theorem tv (l:List ClR) (i:Nat):(plc l i).length=(bh l i).length:=by rw[ES,ahB]
theorem Po (l:List ClR) (i:Nat):(plc l i).length≤l.length:=by
 unfold plc;exact ahC (ahD _ _) (by rw[ahE];exact ahk _)
def pc (l:List ClR) (gc:Nat→Nat) (i:Nat):MV:=if bh l i=[] then .nil else .ref (233600+i) (gc i) 4 0 (bh l i).length
def pp (l:List ClR) (gp:Nat→Nat) (i:Nat):MV:=if bh l i=[] then .nil else .ref (233700+i) (gp i) 1 0 (bh l i).length
structure PyAt (n:Nat) (l:List ClR) (gc gp:Nat→Nat) (m:Mem):Prop where
 r1:m 233019=some (0,fL n (pc l gc))
 r2:m 233022=some (0,fL n (pp l gp))
 k1:∀ i,i<n→bh l i≠[]→m (233600+i)=some (gc i,aC clL (bh l i))
 k2:∀ i,i<n→bh l i≠[]→m (233700+i)=some (gp i,aC gU (plc l i))
theorem PyAt.next {n:Nat} {l:List ClR} {gc gp:Nat→Nat} {m m':Mem} (h:PyAt n l gc gp m) (hn:n≤5) {c1:Nat} {c2 c3 c4:Int} (g1 g2:Nat)
  (h1:m' 233019=some (0,fL n fun i=>if i=c1 then .ref (233600+c1) g1 4 0 ((bh l c1).length+1) else pc l gc i)) (h2:m' 233022=some (0,fL n fun i=>if i=c1 then .ref (233700+c1) g2 1 0 ((bh l c1).length+1) else pp l gp i))
  (h3:m' (233600+c1)=some (g1,aC clL (bh l c1++[((c1:Int),c2,c3,c4)]))) (h4:m' (233700+c1)=some (g2,aC gU (plc l c1++[l.length])))
  (ho:∀ i,i<n→i≠c1→m' (233600+i)=m (233600+i)∧m' (233700+i)=m (233700+i)):PyAt n (l++[((c1:Int),c2,c3,c4)]) (fun i=>if i=c1 then g1 else gc i) (fun i=>if i=c1 then g2 else gp i) m':=by
 have eo:∀ i:Nat,i≠c1→bh (l++[((c1:Int),c2,c3,c4)]) i=bh l i:=fun i hi=>by rw[xZ,if_neg (by show ¬ ((c1:Int)=(i:Int));omega)]
 have ep:∀ i:Nat,i≠c1→plc (l++[((c1:Int),c2,c3,c4)]) i=plc l i:=fun i hi=>by rw[xE,if_neg (by show ¬ ((c1:Int)=(i:Int));omega)]
 have so:bh (l++[((c1:Int),c2,c3,c4)]) c1=bh l c1++[((c1:Int),c2,c3,c4)]:=by rw[xZ,if_pos rfl]
 have sp:plc (l++[((c1:Int),c2,c3,c4)]) c1=plc l c1++[l.length]:=by rw[xE,if_pos rfl]
 refine⟨?_,?_,fun i hi hne=>?_,fun i hi hne=>?_⟩
 ·rw[h1]
  congr 2
  refine ca fun i hi=>?_
  unfold pc
  by_cases hc:i=c1
  ·subst hc
   rw[so,if_pos rfl,if_neg (by simp),ahq];dsimp only;rw[if_pos rfl];rfl
  ·rw[eo i hc,if_neg hc]
   dsimp only;rw[if_neg hc]
 ·rw[h2]
  congr 2
  refine ca fun i hi=>?_
  unfold pp
  by_cases hc:i=c1
  ·subst hc
   rw[so,if_pos rfl,if_neg (by simp),ahq];dsimp only;rw[if_pos rfl];rfl
  ·rw[eo i hc,if_neg hc]
   dsimp only;rw[if_neg hc]
 ·by_cases hc:i=c1
  ·subst hc
   rw[if_pos rfl,so];exact h3
  ·rw[eo i hc] at hne ⊢
   rw[if_neg hc,(ho i hi hc).1];exact h.k1 i hi hne
 ·by_cases hc:i=c1
  ·subst hc
   rw[if_pos rfl,sp];exact h4
  ·rw[eo i hc] at hne
   rw[ep i hc,if_neg hc,(ho i hi hc).2];exact h.k2 i hi hne
structure yl (cs:List ClR) (h:List Rat):Prop where
 len:cs.length≤12
 n:h.length≤5
 c:∀ c∈cs,0≤c.1∧c.1<h.length ∧ -1≤c.2.1∧c.2.1<60∧0≤c.2.2.1∧c.2.2.1<10∧0≤c.2.2.2∧c.2.2.2≤33554432
 x:∀ x∈h,0≤x∧szR 460 x
theorem DV {K:St→Prop} {tm:Nat→MV} {mem mem1 mem':Mem} (h:MoveS mem mem1) (h2:MoveS mem1 mem') (hK:∀ M,M=mem'→K ⟨tm,M⟩):dW K ⟨tm,mem⟩ .many:=⟨mem',.step h (.step h2 (.refl _)),hK _ rfl⟩
theorem RT (T:Tab) {K:bK→St→Prop} {kk:List Todo} (cs:List ClR) (h:List Rat) (hp:yl cs h) (v1:MV) (tm:Nat→MV) (m:Mem)
  (e0:tm 0 = .dat (.sl (cs.map clL))) (e1:tm 1=v1) (e6:tm 6 = .ref 233019 0 1 0 h.length) (e7:tm 7 = .ref 233022 0 1 0 h.length) (e23:tm 23 = .dat (.sl (cs.map clL))) (e24:tm 24 = .dat (.int .i64 cs.length)) (e25:tm 25 = .dat (.int .i64 0)) (m57:m 233057=none) (gc gp:Nat→Nat) (hat:PyAt h.length [] gc gp m)
  (hK:∀ tm' m' gc' gp',tm' 0 = .dat (.sl (cs.map clL))→tm' 1=v1→tm' 6 = .ref 233019 0 1 0 h.length→tm' 7 = .ref 233022 0 1 0 h.length→m' 233057=none→PyAt h.length cs gc' gp' m'→kont T K kk (.exit 0) ⟨tm',m'⟩) :
  wp T (mf_clear_payments.body.sub [1,1,1,0,1,0]) (kont T K kk) ⟨tm,m⟩:=by
 simp only[mf_clear_payments,MCode.sub];have hn:=hp.n;have h12:=hp.len;refine ae [0,1,6,7,23,24] [233057] (fun ((t,gc,gp):Nat × (Nat→Nat) × (Nat→Nat)) tm m=>t≤cs.length∧tm 25 = .dat (.int .i64 t)∧PyAt h.length (cs.take t) gc gp m) (fun (t,_)=>cs.length-t) (0,gc,gp) (by refine⟨by omega,e25,by rw[ahF];exact hat⟩) ?_;intro vs ms hvs hms;simp only[go_sem,go_sem_proc,ahG,e0,e1,e6,e7,e23,e24,m57] at hvs hms;subst hvs hms;clear e0 e1 e6 e7 e23 e24 e25 m57 hat tm m;rintro⟨t,gc,gp⟩ tm m hk m57 ⟨ht,e25,hat⟩;simp only[go_sem,go_sem_proc,ahG,List.cons.injEq] at hk m57;obtain⟨e0,e1,e6,e7,e23,e24⟩:=hk;rcases ahH (t<cs.length) with hlt | hge
 ·have d1:decide ((t:Int)<(cs.length:Int))=true:=decide_eq_true (by omega)
  have w3:IntKind.i64.wrap ((t:Int)+1)=((t+1:Nat):Int):=by rw[an _ (by omega) (by omega)];omega
  obtain⟨⟨c1,c2,c3,c4⟩,hx⟩:∃ c,cs[t]?=some c:=⟨_,ahI hlt⟩;have hrc:=hp.c _ (ahJ hx);dsimp only at hrc;obtain⟨c1,rfl⟩:∃ k:Nat,c1=(k:Int):=⟨c1.toNat,by omega⟩
  have htk:cs.take (t+1)=cs.take t++[((c1:Int),c2,c3,c4)]:=by rw[ahK,hx];rfl
  have htl:(cs.take t).length=t:=by rw[List.length_take];omega
  generalize hl:cs.take t=l at *;have hc1:c1<h.length:=by omega
  have r1:=hat.r1;have r2:=hat.r2;have g1:=nE (cX (pc l gc) hc1);have g2:=nE (cX (pp l gp) hc1);have n1:(fL h.length (pc l gc)).length=h.length:=bU _ _;have n2:(fL h.length (pp l gp)).length=h.length:=bU _ _;have s1:=fun v=>(lB (l:=fL h.length (pc l gc)) (k:=c1) (v:=v) (by rw[bU];exact hc1)).trans (nc (pc l gc) v)
  have s2:=fun v=>(lB (l:=fL h.length (pp l gp)) (k:=c1) (v:=v) (by rw[bU];exact hc1)).trans (nc (pp l gp) v)
  have l1:c1+1≤h.length:=by omega
  have hml:(1≤maxLen)=True:=eq_true (by decide);have hol:(bh l c1).length≤12:=ahC (ahD _ _) (by omega);have hpl:=tv l c1;have E1:∀ i,i<h.length→233600+i≠233009∧233600+i≠233019∧233600+i≠233022∧233600+i≠233043∧233600+i≠233051∧233600+i≠233700+c1∧233600+i≠233057:=fun i hi=>by omega
  have E2:∀ i,i<h.length→233700+i≠233009∧233700+i≠233019∧233700+i≠233022∧233700+i≠233043∧233700+i≠233051∧233700+i≠233600+c1∧233700+i≠233057:=fun i hi=>by omega
  by_cases hce:bh l c1=[]
  ·have c1m:pc l gc c1 = .nil:=by unfold pc;rw[if_pos hce]
   have c2m:pp l gp c1 = .nil:=by unfold pp;rw[if_pos hce]
   have hpe:plc l c1=[]:=List.length_eq_zero_iff.1 (by rw[hpl,hce];rfl);rw[c1m] at g1;rw[c2m] at g2;simp only[go_sem,go_sem_proc,ahG,hml,e0,e1,e6,e7,e23,e24,e25,hx,r1,r2,g1,g2,n1,n2,s1,s2,d1,l1,hc1,clL,ahL,ahB,ahM];obtain⟨f11,f12,f13,f14,f15,f16,f17⟩:=E1 c1 hc1;obtain⟨f21,f22,f23,f24,f25,f26,f27⟩:=E2 c1 hc1
   refine DV (MoveS.mref 233019 0 _ c1 233043 (cT (m 233043)) 4 0 1 _ (233600+c1) ((aJ (by decide)).trans cn) ((cX _ hc1).trans (by rw[if_pos rfl])) ((aJ (by decide)).trans ((aJ (by decide)).trans ((aJ (by decide)).trans cn))) (by decide) f14 f12)
    (MoveS.mref 233022 0 _ c1 233051 (cT (m 233051)) 1 0 1 _ (233700+c1) ((aJ (by decide)).trans ((aJ (Ne.symm f13)).trans ((aJ (by decide)).trans cn))) ((cX _ hc1).trans (by rw[if_pos rfl])) ((aJ (by decide)).trans ((aJ (Ne.symm f15)).trans ((aJ (by decide)).trans ((aJ (by decide)).trans ((aJ (by decide)).trans cn))))) (by decide) f25 f23) ?_
   intro M2 hM2
   have hMo:∀ k:Nat,k≠233009→k≠233019→k≠233022→k≠233043→k≠233051→k≠233600+c1→k≠233700+c1→M2 k=m k:=fun k h9 h19 h22 h43 h51 h36 h37=>by
    rw[hM2,aJ h22,aJ h37,aJ h51,aJ h19,aJ h36,aJ h43,aJ h22,aJ h19,aJ h51,aJ h43,aJ h9,aJ h9]
   obtain⟨ga,hA1,hA2⟩:∃ ga,M2 233019=some (0,fL h.length fun i=>if i=c1 then .ref (233600+c1) ga 4 0 ((bh l c1).length+1) else pc l gc i)∧M2 (233600+c1)=some (ga,aC clL (bh l c1++[((c1:Int),c2,c3,c4)])):=by
    rw[hce];apply Exists.intro;apply And.intro
    rotate_left
    ·rw[hM2,aJ f13,aJ f16,aJ f15,aJ f12,cn];rfl
    ·rw[hM2,aJ (by decide),aJ (Ne.symm f22),aJ (by decide),cn,nc]
     congr 2
     refine ca fun i _=>?_
     by_cases hi:i=c1
     ·rw[if_pos hi,if_pos hi];rfl
     ·rw[if_neg hi,if_neg hi,if_neg hi]
   obtain⟨gb,hB1,hB2⟩:∃ gb,M2 233022=some (0,fL h.length fun i=>if i=c1 then .ref (233700+c1) gb 1 0 ((bh l c1).length+1) else pp l gp i)∧M2 (233700+c1)=some (gb,aC gU (plc l c1++[l.length])):=by
    rw[hce,hpe,htl];apply Exists.intro;apply And.intro
    rotate_left
    ·rw[hM2,aJ f23,cn];rfl
    ·rw[hM2,cn,nc]
     congr 2
     refine ca fun i _=>?_
     by_cases hi:i=c1
     ·rw[if_pos hi,if_pos hi];rfl
     ·rw[if_neg hi,if_neg hi,if_neg hi]
   have hfin:=hat.next (m':=M2) hn ga gb hA1 hB1 hA2 hB2 fun i hi hne=>⟨by
    obtain⟨a1,a2,a3,a4,a5,a6,-⟩:=E1 i hi;exact hMo _ a1 a2 a3 a4 a5 (by omega) a6,by
    obtain⟨a1,a2,a3,a4,a5,a6,-⟩:=E2 i hi;exact hMo _ a1 a2 a3 a4 a5 a6 (by omega)⟩
   have hM57:M2 233057=none:=(hMo 233057 (by decide) (by decide) (by decide) (by decide) (by decide) (Ne.symm f17) (Ne.symm f27)).trans m57;clear hM2 hMo hA1 hA2 hB1 hB2;simp only[go_sem,go_sem_proc,ahG,e0,e1,e6,e7,e23,e24,e25,w3,hM57]
   repeat' (first|refine qS ?_ ?_|fail)<;>intro h<;>simp only[h,go_sem,go_sem_proc,ahG,e0,e1,e6,e7,e23,e24,e25,w3,hM57]
   exact⟨(t+1,_,_),by dsimp only;omega,by dsimp only;omega,rfl,by rw[htk];exact hfin⟩
  ·have c1m:pc l gc c1 = .ref (233600+c1) (gc c1) 4 0 (bh l c1).length:=by unfold pc;rw[if_neg hce]
   have c2m:pp l gp c1 = .ref (233700+c1) (gp c1) 1 0 (plc l c1).length:=by unfold pp;rw[if_neg hce,hpl]
   rw[c1m] at g1;rw[c2m] at g2;have k1:=hat.k1 c1 hc1 hce;have k2:=hat.k2 c1 hc1 hce;have ha1:=dl lH tk (233600+c1) (gc c1) 32 (bh l c1) ((c1:Int),c2,c3,c4) (cs:=[.dat (.int .i64 c1),.dat (.int .i64 c2),.dat (.int .i64 c3),.dat (.int .i64 c4)]) rfl (by omega) (by omega);have ha2:=dl io Av (233700+c1) (gp c1) 8 (plc l c1) l.length (cs:=[.dat (.int .i64 t)]) (by rw[htl];rfl) (by omega) (by omega);obtain⟨f11,f12,f13,f14,f15,f16,f17⟩:=E1 c1 hc1;obtain⟨f21,f22,f23,f24,f25,f26,f27⟩:=E2 c1 hc1;have hKa:(233600+c1)=233600+c1:=rfl;generalize hA:233600+c1=A at *;generalize hB:233700+c1=B at *;have hAB:A≠B:=f16;have q1:(A==233009)=false:=beq_eq_false_iff_ne.2 f11;have q1':(233009==A)=false:=beq_eq_false_iff_ne.2 (Ne.symm f11);have q2:(A==233019)=false:=beq_eq_false_iff_ne.2 f12;have q2':(233019==A)=false:=beq_eq_false_iff_ne.2 (Ne.symm f12);have q3:(A==233022)=false:=beq_eq_false_iff_ne.2 f13;have q3':(233022==A)=false:=beq_eq_false_iff_ne.2 (Ne.symm f13);have q4:(A==233043)=false:=beq_eq_false_iff_ne.2 f14;have q4':(233043==A)=false:=beq_eq_false_iff_ne.2 (Ne.symm f14);have q5:(A==233051)=false:=beq_eq_false_iff_ne.2 f15;have q5':(233051==A)=false:=beq_eq_false_iff_ne.2 (Ne.symm f15);have q6:(A==B)=false:=beq_eq_false_iff_ne.2 hAB;have q6':(B==A)=false:=beq_eq_false_iff_ne.2 (Ne.symm hAB);have p1:(B==233009)=false:=beq_eq_false_iff_ne.2 f21;have p1':(233009==B)=false:=beq_eq_false_iff_ne.2 (Ne.symm f21);have p2:(B==233019)=false:=beq_eq_false_iff_ne.2 f22;have p2':(233019==B)=false:=beq_eq_false_iff_ne.2 (Ne.symm f22);have p3:(B==233022)=false:=beq_eq_false_iff_ne.2 f23;have p3':(233022==B)=false:=beq_eq_false_iff_ne.2 (Ne.symm f23);have p4:(B==233043)=false:=beq_eq_false_iff_ne.2 f24;have p4':(233043==B)=false:=beq_eq_false_iff_ne.2 (Ne.symm f24);have p5:(B==233051)=false:=beq_eq_false_iff_ne.2 f25;have p5':(233051==B)=false:=beq_eq_false_iff_ne.2 (Ne.symm f25);have x1:(A=233009)=False:=eq_false f11;have x2:(B=233009)=False:=eq_false f21;have x3:(B=A)=False:=eq_false (Ne.symm hAB);have x4:(233019=A)=False:=eq_false (Ne.symm f12);have x5:(233019=B)=False:=eq_false (Ne.symm f22);have x6:(233022=A)=False:=eq_false (Ne.symm f13);have x7:(233022=B)=False:=eq_false (Ne.symm f23);have x8:(233009=A)=False:=eq_false (Ne.symm f11);have x9:(233009=B)=False:=eq_false (Ne.symm f21);have x10:(A=B)=False:=eq_false hAB;simp only[go_sem,go_sem_proc,ahG,hml,e0,e1,e6,e7,e23,e24,e25,hx,r1,r2,g1,g2,n1,n2,s1,s2,d1,l1,hc1,k1,k2,ha1,ha2,q1,q1',q2,q2',q3,q3',q4,q4',q5,q5',q6,q6',p1,p1',p2,p2',p3,p3',p4,p4',p5,p5',x1,x2,x3,x4,x5,x6,x7,x8,x9,x10,clL,ahL,ahB,ahM];refine rS ?_;intro M2 hM2
   have hMo:∀ k:Nat,k≠233009→k≠233019→k≠233022→k≠A→k≠B→M2 k=m k:=fun k h9 h19 h22 hA hB=>by
    rw[hM2,aJ h22,aJ h19,aJ hB,aJ hA,aJ h9,aJ h9]
   have hA1:M2 233019=some (0,fL h.length fun i=>if i=c1 then .ref A (gc c1+1) 4 0 ((bh l c1).length+1) else pc l gc i):=by
    rw[hM2,aJ (by decide),cn]
   have hA2:M2 A=some (gc c1+1,aC clL (bh l c1++[((c1:Int),c2,c3,c4)])):=by
    rw[hM2,aJ f13,aJ f12,aJ hAB,cn]
   have hB1:M2 233022=some (0,fL h.length fun i=>if i=c1 then .ref B (gp c1+1) 1 0 ((bh l c1).length+1) else pp l gp i):=by
    rw[hM2,cn,hpl]
   have hB2:M2 B=some (gp c1+1,aC gU (plc l c1++[l.length])):=by
    rw[hM2,aJ f23,aJ f22,cn]
   have hfin:=hat.next (m':=M2) hn (c2:=c2) (c3:=c3) (c4:=c4) (gc c1+1) (gp c1+1) (by rw[hA];exact hA1) (by rw[hB];exact hB1) (by rw[hA];exact hA2) (by rw[hB];exact hB2) fun i hi hne=>⟨by
    obtain⟨a1,a2,a3,a4,a5,a6,-⟩:=E1 i hi;exact hMo _ a1 a2 a3 (by omega) a6,by
    obtain⟨a1,a2,a3,a4,a5,a6,-⟩:=E2 i hi;exact hMo _ a1 a2 a3 a6 (by omega)⟩
   have hM57:M2 233057=none:=(hMo 233057 (by decide) (by decide) (by decide) (Ne.symm f17) (Ne.symm f27)).trans m57;clear hM2 hMo hA1 hA2 hB1 hB2;simp only[go_sem,go_sem_proc,ahG,e0,e1,e6,e7,e23,e24,e25,w3,hM57]
   repeat' (first|refine qS ?_ ?_|fail)<;>intro h<;>simp only[h,go_sem,go_sem_proc,ahG,e0,e1,e6,e7,e23,e24,e25,w3,hM57]
   exact⟨(t+1,_,_),by dsimp only;omega,by dsimp only;omega,rfl,by rw[htk];exact hfin⟩
 ·have d1:decide ((t:Int)<(cs.length:Int))=false:=decide_eq_false (by omega)
  rw[ahN (by omega)] at hat;simp only[go_sem,go_sem_proc,ahG,e0,e1,e6,e7,e23,e24,e25,d1]
  repeat' (first|refine qS ?_ ?_|fail)<;>intro h<;>simp only[h,go_sem,go_sem_proc,ahG,e0,e1,e6,e7,e23,e24,e25,d1]
  refine hK _ _ gc gp ?_ ?_ ?_ ?_ m57 hat<;>simp only[aR,ahO,if_false,e0,e1,e6,e7]
def plM (l:List Nat):MV:=if l=[] then .nil else .dat (.sl (l.map gU))
theorem LX (l:List Nat):oY (plM l)=some l.length:=by
 unfold plM
 split
 ·rename_i h;rw[h];rfl
 ·simp [oY]
theorem MG {l:List Nat} {n y:Nat} (h:l[n]?=some y):xN 1 n (plM l)=some (.dat (.ptr (gU y))):=by
 unfold plM
 split
 ·rename_i hl;rw[hl] at h;cases h
 ·simp only[xN,ahM,h,ahP]
  rfl
theorem MP (l:List ClR) (n:Nat) (m:Mem):toD n m (clM l)=some (.sl (l.map clL)):=by
 unfold clM
 split
 ·rename_i h;rw[h];exact Mf n
 ·exact te n _
noncomputable def pyE (cs:List ClR) (h:List Rat) (j:Nat):aG:=ah (cg cs (h.getD (cs.getD j zC).1.toNat 0) (cs.getD j zC))
noncomputable def pyQ (cs:List ClR) (h:List Rat) (i t j:Nat):Option aG:=if (cs.getD j zC).1<(i:Int)∨((cs.getD j zC).1=(i:Int)∧j∈(plc cs i).take t) then some (pyE cs h j) else none
theorem LB (cs:List ClR) (h:List Rat) (i:Nat):(fL cs.length fun j=>pyQ cs h i (plc cs i).length j)=fL cs.length fun j=>pyQ cs h (i+1) 0 j:=ca fun j hj=>by
 unfold pyQ;rw[List.take_length,ahF];have hm:=plc_mem (l:=cs) (i:=i) (j:=j)
 by_cases h1:(cs.getD j zC).1<(i:Int)
 ·rw[if_pos (.inl h1),if_pos (.inl (by omega))]
 ·by_cases h2:(cs.getD j zC).1=(i:Int)
  ·rw[if_pos (.inr ⟨h2,hm.2 ⟨hj,h2⟩⟩),if_pos (.inl (by omega))]
  ·rw[if_neg (fun hh=>hh.elim h1 fun x=>h2 x.1),if_neg (fun hh=>hh.elim (by omega) fun x=>by simpa using x.2)]
theorem IG (cs:List ClR) (h:List Rat) (hp:yl cs h):(fL cs.length fun j=>pyQ cs h 0 0 j)=fL cs.length fun _=>none:=ca fun j hj=>by
 have:=(hp.c _ (ahJ (ahI hj))).1;have e:cs.getD j zC=cs[j]:=by rw[ahm,ahI hj];rfl
 unfold pyQ;rw[e,ahF,if_neg (fun hh=>hh.elim (by omega) fun x=>by simpa using x.2)]
theorem PU (cs:List ClR) (h:List Rat) (hp:yl cs h):(fL cs.length fun j=>pyQ cs h h.length 0 j)=(cs.map fun c=>ah (cg cs (h.getD c.1.toNat 0) c)).map some:=by
 refine (Fb (by simp) fun j hj=>?_).symm;have:=(hp.c _ (ahJ (ahI hj))).2.1;have e:cs.getD j zC=cs[j]:=by rw[ahm,ahI hj];rfl
 unfold pyQ;rw[ahM,ahM,ahI hj,e,if_pos (.inl this)];unfold pyE;rw[e];rfl
theorem Sk (T:Tab) {K:bK→St→Prop} {kk:List Todo} (cs:List ClR) (h:List Rat) (hp:yl cs h) (i:Nat) (hi:i<h.length) (v1 v7 v58 v59 v60:MV) (x19 x22:Option (Nat × List MV)) (tm:Nat→MV) (m:Mem)
  (e1:tm 1=v1) (e7:tm 7=v7) (e10:tm 10 = .ref 233057 0 4 0 cs.length) (e13:tm 13 = .dat (.sl (((bh cs i).map fun c=>ah (cg cs (h.getD i 0) c)).map ad))) (e58:tm 58=v58) (e59:tm 59=v59) (e60:tm 60=v60) (e79:tm 79=plM (plc cs i)) (e80:tm 80 = .dat (.int .i64 (plc cs i).length)) (e81:tm 81 = .dat (.int .i64 0)) (m19:m 233019=x19) (m22:m 233022=x22) (m57:m 233057=some (0,kt o5 (fL cs.length fun j=>pyQ cs h i 0 j)))
  (hK:∀ tm' m',tm' 1=v1→tm' 7=v7→tm' 10 = .ref 233057 0 4 0 cs.length→tm' 58=v58→tm' 59=v59→tm' 60=v60→m' 233019=x19→m' 233022=x22→m' 233057=some (0,kt o5 (fL cs.length fun j=>pyQ cs h (i+1) 0 j))→kont T K kk (.exit 4) ⟨tm',m'⟩) :
  wp T (mf_clear_payments.body.sub [1,1,1,1,1,0,1,0,0,1,1,0,0,1,1,1,1,0]) (kont T K kk) ⟨tm,m⟩:=by
 simp only[mf_clear_payments,MCode.sub];have h12:=hp.len;have hpl:=Po cs i;refine ae [1,7,10,13,58,59,60,79,80] [233019,233022] (fun (k:Nat) tm m=>k≤(plc cs i).length∧tm 81 = .dat (.int .i64 k)∧m 233057=some (0,kt o5 (fL cs.length fun j=>pyQ cs h i k j))) (fun k=>(plc cs i).length-k) 0 (by refine⟨by omega,e81,m57⟩) ?_;intro vs ms hvs hms;simp only[go_sem,go_sem_proc,ahG,e1,e7,e10,e13,e58,e59,e60,e79,e80,m19,m22] at hvs hms;subst hvs hms;clear e1 e7 e10 e13 e58 e59 e60 e79 e80 e81 m19 m22 m57 tm m;rintro k tm m hk hm ⟨hkl,e81,m57⟩;simp only[go_sem,go_sem_proc,ahG,List.cons.injEq] at hk hm;obtain⟨e1,e7,e10,e13,e58,e59,e60,e79,e80⟩:=hk;obtain⟨m19,m22⟩:=hm;rcases ahH (k<(plc cs i).length) with hlt | hge
 ·have d1:decide ((k:Int)<((plc cs i).length:Int))=true:=decide_eq_true (by omega)
  have w3:IntKind.i64.wrap ((k:Int)+1)=((k+1:Nat):Int):=by rw[an _ (by omega) (by omega)];omega
  obtain⟨y,hy⟩:∃ y,(plc cs i)[k]?=some y:=⟨_,ahI hlt⟩;obtain⟨hyl,hyi⟩:=plc_mem.1 (ahJ hy);have hia:=MG hy;simp only[go_sem,go_sem_proc,ahG,ahL] at hia
  have hog:((bh cs i).map fun c=>ah (cg cs (h.getD i 0) c))[k]?=some (pyE cs h y):=by
   rw[ES,ahM,ahM,hy];unfold pyE;rw[hyi,ahQ];rfl
  have hlen4:=C2 (q:=fun j=>pyQ cs h i k j) hyl;have hset:=fun a b c d=>CN (q:=fun j=>pyQ cs h i k j) hyl a b c d
  have hnx:∀ F:aG,F=pyE cs h y→(fL cs.length fun j=>if j=y then some F else pyQ cs h i k j)=fL cs.length fun j=>pyQ cs h i (k+1) j:=fun F hF=>ca fun j _=>by
   have htk:(plc cs i).take (k+1)=(plc cs i).take k++[y]:=by rw[ahK,hy];rfl
   by_cases hj:j=y
   ·subst hj
    rw[if_pos rfl];unfold pyQ;rw[htk,if_pos (.inr ⟨hyi,by simp⟩),hF]
   ·rw[if_neg hj]
    unfold pyQ;rw[htk]
    by_cases h1:(cs.getD j zC).1<(i:Int)∨((cs.getD j zC).1=(i:Int)∧j∈(plc cs i).take k)
    ·rw[if_pos h1,if_pos (h1.imp id fun x=>⟨x.1,by simp [x.2]⟩)]
    ·rw[if_neg h1,if_neg fun hh=>h1 (hh.imp id fun x=>⟨x.1,by simpa [hj] using x.2⟩)]
  have hn:=hnx _ rfl;clear hK;generalize ((bh cs i).map fun c=>ah (cg cs (h.getD i 0) c))=PD at *;generalize pyE cs h y=F at *;obtain⟨⟨a1,a2⟩,⟨a3,a4⟩⟩:=F;have hst:=hset a1 a2 a3 a4;rw[hn] at hst;simp only[go_sem,go_sem_proc,ahG,e1,e7,e10,e13,e58,e59,e60,e79,e80,e81,m19,m22,m57,d1,w3,hia,hog,hlen4,hst,hyl,gU,ad,ahL,ahB,ahM]
  repeat' (first|refine qS ?_ ?_|fail)<;>intro h<;>simp only[h,go_sem,go_sem_proc,ahG,e1,e7,e10,e13,e58,e59,e60,e79,e80,e81,m19,m22,m57,d1,w3,hia,hog,hlen4,hst,hyl,gU,ad,ahL,ahB,ahM]
  exact⟨k+1,by omega,by omega,rfl,rfl⟩
 ·have d1:decide ((k:Int)<((plc cs i).length:Int))=false:=decide_eq_false (by omega)
  obtain rfl:k=(plc cs i).length:=by omega
  rw[LB] at m57;simp only[go_sem,go_sem_proc,ahG,e1,e7,e10,e13,e58,e59,e60,e79,e80,e81,d1]
  repeat' (first|refine qS ?_ ?_|fail)<;>intro h<;>simp only[h,go_sem,go_sem_proc,ahG,e1,e7,e10,e13,e58,e59,e60,e79,e80,e81,d1]
  refine hK _ _ ?_ ?_ ?_ ?_ ?_ ?_ m19 m22 m57<;>simp only[aR,ahO,if_false,e1,e7,e10,e58,e59,e60]
theorem nrow (n:Nat):(List.replicate n [MV.nil]).flatten=fL n fun _ => .nil:=by
 induction n with
 | zero=>rfl
 | succ n ih=>rw[List.replicate_succ',List.flatten_append,ih,Eo];rfl
theorem KD {a b:List Rat} (h:(a.map ah).map ad=(b.map ah).map ad):a=b:=af (fun _ _ h=>uk h) _ _ (af cV _ _ h)
noncomputable def qq:List Data→Option PRes:=FF (α:=(List ClR) × (List Rat)) (fun (cs,h)=>([.sl (cs.map clL),.sl ((h.map ah).map ad)]:List Data)) (fun (cs,h)=>aH (yl cs h) (.same (.tup [.sl ((cs.map fun c=>ah (cg cs (h.getD c.1.toNat 0) c)).map ad),.bool true])))
theorem Cr:∀ a b:(List ClR) × (List Rat),(fun (cs,h)=>([.sl (cs.map clL),.sl ((h.map ah).map ad)]:List Data)) a=(fun (cs,h)=>([.sl (cs.map clL),.sl ((h.map ah).map ad)]:List Data)) b→a=b:=by
  rintro⟨cs1,h1⟩ ⟨cs2,h2⟩ h;simp only[List.cons.injEq,Data.sl.injEq,and_true] at h;exact ahR (af fj _ _ h.1) (KD h.2)
@[go_sem] theorem ut (cs:List ClR) (h:List Rat) (hc:yl cs h):qq [.sl (cs.map clL),.sl ((h.map ah).map ad)]=some (.same (.tup [.sl ((cs.map fun c=>ah (cg cs (h.getD c.1.toNat 0) c)).map ad),.bool true])):=(aY Cr (cs,h)).trans (al hc _)
theorem NF (T:Tab) (bW:T ic=mkE nK) (cs:List ClR) (h:List Rat) (hc:yl cs h) :
  wp T mf_clear_payments.body (bF mf_clear_payments.res (.same (.tup [.sl ((cs.map fun c=>ah (cg cs (h.getD c.1.toNat 0) c)).map ad),.bool true]))) ⟨ax [.dat (.sl (cs.map clL)),.dat (.sl ((h.map ah).map ad))],emp⟩:=by
 refine ap ?_;simp only[mf_clear_payments];have hn:=hc.n;have h12:=hc.len;have hmk1:(24*h.length≤140737488355328)=True:=eq_true (by omega);have hmk2:(h.length≤maxLen)=True:=eq_true (by unfold maxLen;omega);have hmk3:(64*cs.length≤140737488355328)=True:=eq_true (by omega);have hmk4:(cs.length≤maxLen)=True:=eq_true (by unfold maxLen;omega);have hz:=nrow h.length;have hz2:=wB cs.length;rw[←IG cs h hc] at hz2;simp only[go_sem,go_sem_proc,ahG,bW,hmk1,hmk2,hz,ahB];refine RT T cs h hc (.dat (.sl ((h.map ah).map ad))) _ _ ?_ ?_ ?_ ?_ ?_ ?_ ?_ ?_ (fun _=>0) (fun _=>0) ⟨?_,?_,fun i hi hne=>absurd rfl hne,fun i hi hne=>absurd rfl hne⟩ ?_
 all_goals first | (intro tm m gc gp k0 k1 k6 k7 m57 hat) | (simp only[aR,ahO,if_false,if_true];done) | (simp only[aR,ahO,if_false,if_true];rfl) | (simp only[ay,ahO,if_false,if_true];rfl) | skip
 obtain⟨m1,h1,h2,h3⟩:=tg (fun i=>233600+i) (fun i=>clM (bh cs i)) (fun i hi=>by omega) (fun i j _ _ he=>by omega) h.length 0 (pc cs gc) m (by omega) hat.r1 (fun i hi=>by omega) fun i _ hi=>by
  by_cases hce:bh cs i=[]
  ·refine .inl ?_
   unfold pc clM;rw[if_pos hce,if_pos hce]
  ·refine .inr ⟨gc i,4,(bh cs i).length,aC clL (bh cs i),.sl ((bh cs i).map clL),?_,hat.k1 i hi hce,fun m2 hm2=>eO (n:=0) lH hm2,?_⟩
   ·unfold pc;rw[if_neg hce]
   ·unfold clM;rw[if_neg hce]
 have h22:m1 233022=some (0,fL h.length (pp cs gp)):=(h3 233022 (by decide) fun i hi=>by omega).trans hat.r2;have h57:m1 233057=none:=(h3 233057 (by decide) fun i hi=>by omega).trans m57
 obtain⟨m2,g1,g2,g3⟩:=tg (fun i=>233700+i) (fun i=>plM (plc cs i)) (fun i hi=>by omega) (fun i j _ _ he=>by omega) h.length 0 (pp cs gp) m1 (by omega) h22 (fun i hi=>by omega) fun i _ hi=>by
  by_cases hce:bh cs i=[]
  ·refine .inl ?_
   have hpe:plc cs i=[]:=List.length_eq_zero_iff.1 (by rw[tv,hce];rfl);unfold pp plM;rw[if_pos hce,if_pos hpe]
  ·have hpe:plc cs i≠[]:=fun hh=>hce (List.length_eq_zero_iff.1 (by rw[←tv,hh];rfl))
   refine .inr ⟨gp i,1,(bh cs i).length,aC gU (plc cs i),.sl ((plc cs i).map gU),?_,?_,fun m2 hm2=>by rw[←tv];exact eO (n:=0) io hm2,?_⟩
   ·unfold pp;rw[if_neg hce]
   ·exact (h3 (233700+i) (by omega) fun j hj=>by omega).trans (hat.k2 i hi hce)
   ·unfold plM;rw[if_neg hpe]
 have q19:m2 233019=some (0,fL h.length fun i=>clM (bh cs i)):=(g3 233019 (by decide) fun i hi=>by omega).trans h2;have q57:m2 233057=none:=(g3 233057 (by decide) fun i hi=>by omega).trans h57;simp only[go_sem,go_sem_proc,ahG,bW];refine Ch (h1.trans g1) ?_;clear h1 h2 h3 g1 g3 h22 h57 hat m57;simp only[go_sem,go_sem_proc,ahG,bW,k0,k1,k6,k7,hmk3,hmk4,hz2,q57,ahB];refine ae [1,7,10,58,59] [233019,233022] (fun (i:Nat) tm m=>i≤h.length∧tm 60 = .dat (.int .i64 i)∧m 233057=some (0,kt o5 (fL cs.length fun j=>pyQ cs h i 0 j))) (fun i=>h.length-i) 0 (by refine⟨by omega,rfl,by simp [ay]⟩) ?_;intro vs ms hvs hms;simp only[go_sem,go_sem_proc,ahG,bW,k1,k7,q19,g2,ahB] at hvs hms;subst hvs hms;clear k0 k1 k6 k7 q19 q57 g2 tm m m1 m2;rintro i tm m hk hm ⟨hi,e60,m57⟩;simp only[go_sem,go_sem_proc,ahG,bW,List.cons.injEq] at hk hm;obtain⟨e1,e7,e10,e58,e59⟩:=hk;obtain⟨m19,m22⟩:=hm;rcases ahH (i<h.length) with hlt | hge
 ·have d1:decide ((i:Int)<(h.length:Int))=true:=decide_eq_true (by omega)
  have w3:IntKind.i64.wrap ((i:Int)+1)=((i+1:Nat):Int):=by rw[an _ (by omega) (by omega)];omega
  obtain⟨x,hx⟩:∃ x,h[i]?=some x:=⟨_,ahI hlt⟩;have hxd:h.getD i 0=x:=by rw[ahm,hx];rfl
  have hx0:=hc.x x (ahJ hx)
  have hown:OwnOK (bh cs i):=⟨ahC (ahD _ _) h12,fun c hcm=>by
   have h1:=hc.c c (own_mem.1 hcm).1;omega,fun c hcm c' hcm'=>by rw[(own_mem.1 hcm).2,(own_mem.1 hcm').2]⟩
  have hF:=sR x (bh cs i) ⟨hown,hx0.1,hx0.2⟩;rw[wl,←hxd] at hF;rw[←hxd] at hx;have r1:=nE (cX (fun i=>clM (bh cs i)) hlt);have r2:=nE (cX (fun i=>plM (plc cs i)) hlt);have n1:(fL h.length fun i=>clM (bh cs i)).length=h.length:=bU _ _;have n2:(fL h.length fun i=>plM (plc cs i)).length=h.length:=bU _ _;have l1:i+1≤h.length:=by omega
  have htd:=MP (bh cs i) 6;have hpln:=LX (plc cs i);simp only[go_sem,go_sem_proc,ahG,bW] at hpln;generalize hX:ah (h.getD i 0)=X at *;obtain⟨⟨a1,a2⟩,⟨a3,a4⟩⟩:=X;simp only[ad] at hF;simp only[go_sem,go_sem_proc,ahG,bW,bW,e1,e7,e10,e58,e59,e60,m19,m22,m57,d1,r1,r2,n1,n2,l1,hlt,hx,hX,htd,hF,hpln,ad,ahL,ahB,ahM,bne,beq_self_eq_true,ahS];refine Sk T cs h hc i hlt (.dat (.sl ((h.map ah).map ad))) (.ref 233022 0 1 0 h.length) (.ref 233019 0 1 0 h.length) (.dat (.int .i64 h.length)) (.dat (.int .i64 i)) _ _ _ _ ?_ ?_ ?_ ?_ ?_ ?_ ?_ ?_ ?_ ?_ m19 m22 m57 ?_
  all_goals first | (intro tm' m' k1 k7 k10 k58 k59 k60 q19 q22 q57) | (simp only[aR,ahO,if_false,if_true,e1,e7,e10,e58,e59,e60];done)
  simp only[go_sem,go_sem_proc,ahG,bW,k1,k7,k10,k58,k59,k60,q19,q22,q57,w3]
  repeat' (first|refine qS ?_ ?_|fail)<;>intro h<;>simp only[h,go_sem,go_sem_proc,ahG,bW,k1,k7,k10,k58,k59,k60,q19,q22,q57,w3]
  exact⟨i+1,by omega,by omega,rfl,rfl⟩
 ·have d1:decide ((i:Int)<(h.length:Int))=false:=decide_eq_false (by omega)
  obtain rfl:i=h.length:=by omega
  rw[PU cs h hc,AG] at m57;have hfz:=fun (K:St→Prop) (st:St)=>cp (K:=K) (st:=st) ce 10 233057 0 (cs.map fun c=>ah (cg cs (h.getD c.1.toNat 0) c))
  rw[ahB] at hfz;simp only[go_sem,go_sem_proc,ahG,bW,e1,e7,e10,e58,e59,e60,d1,m57,hfz,ahB]
  repeat' (first|refine qS ?_ ?_|fail)<;>intro h<;>simp only[h,go_sem,go_sem_proc,ahG,bW,e1,e7,e10,e58,e59,e60,d1,m57,hfz,ahB]
end Go.Mini
namespace Go.Mini
open Classical
noncomputable def o8 (cs:List ClR) (x:Nat→Rat) (i:Nat) (acc:Option Rat) (c:ClR):Option Rat :=
 if c.2.1=(i:Int) then acc.bind fun s=>if ia s (cg cs (x c.1.toNat) c)=true then some (s+cg cs (x c.1.toNat) c) else none else acc
noncomputable def pw (cash:List Int) (cs:List ClR) (x:Nat→Rat) (i:Nat) (l:List ClR):Option Rat:=l.foldl (o8 cs x i) (some ((cash.getD i 0:Int):Rat))
theorem AY (cash:List Int) (cs:List ClR) (x:Nat→Rat) (i:Nat):pw cash cs x i []=some ((cash.getD i 0:Int):Rat):=rfl
theorem mL (cash:List Int) (cs:List ClR) (x:Nat→Rat) (i:Nat) (l:List ClR) (c:ClR):pw cash cs x i (l++[c])=o8 cs x i (pw cash cs x i l) c:=by
 unfold pw;rw[ahT];rfl
theorem Dn (cs:List ClR) (x:Nat→Rat) (i:Nat) (l:List ClR):l.foldl (o8 cs x i) none=none:=by
 induction l with
 | nil=>rfl
 | cons c l ih =>
  have:o8 cs x i none c=none:=by unfold o8;split<;>rfl
  rw[List.foldl_cons,this,ih]
theorem Hn {cash:List Int} {cs:List ClR} {x:Nat→Rat} {i:Nat} {l:List ClR} (h:pw cash cs x i l=none) (m:List ClR):pw cash cs x i (l++m)=none:=by
 unfold pw at *;rw[ahT,h,Dn]
noncomputable def sA (cash:List Int) (cs:List ClR) (x:Nat→Rat) (i:Nat) (l:List ClR):Rat:=((cash.getD i 0:Int):Rat)+sumC (l.map bm) fun c=>if c.to=(i:Int) then (ab cash cs).pay x c else 0
theorem Kl {cash:List Int} {cs:List ClR} (h:dq cash cs=true) (x:Nat→Rat) (i:Nat) (l:List ClR) {c:ClR} (hc:c∈cs):sA cash cs x i (l++[c])=sA cash cs x i l+if c.2.1=(i:Int) then cg cs (x c.1.toNat) c else 0:=by
 unfold sA;rw[ahA,jc,←E9 h x hc]
 show _+(_+((if (bm c).to=(i:Int) then (ab cash cs).pay x (bm c) else 0)+0))=_;have e:(bm c).to=c.2.1:=rfl;rw[e,ahU];grind
def uA (cash:List Int) (cs:List ClR) (x:Nat→Rat):Prop:=∀ i,i<cash.length→pw cash cs x i cs=some (x i)
section
variable {cash:List Int} {cs:List ClR} (hs:SmallD cash cs)
include hs
theorem LR:0<il cash.length (s8 cash cs)∧il cash.length (s8 cash cs)≤2^145:=by
 refine⟨rL fun k hk=>A8 hs hk,ahC (tO fun k _=>Fx hs k) (Nat.pow_le_pow_right (by omega) ?_)⟩
 have:=hs.n5;omega
theorem pA:∃ M:Nat,0<M∧(∃ a,a≤547∧M≤2^a)∧(∀ i,i<cash.length→DenBy M ((ab cash cs).gr i))∧∀ c∈cs,DenBy M ((ab cash cs).pay (ab cash cs).gr (bm c)):=by
 obtain⟨M,h1,⟨a,h2,h3⟩,h4⟩:=Cu hs;obtain⟨p1,p2⟩:=LR hs;refine⟨M*il cash.length (s8 cash cs),Nat.mul_pos h1 p1,⟨a+145,by omega,by rw[Nat.pow_add];exact Nat.mul_le_mul h3 p2⟩,fun i hi=>(h4 i hi).more _,fun c hc=>?_⟩
 have h5:=EE hs h4 hc;have hk:(bm c).fr<cash.length:=hs.ok.fr _ (ahV hc);refine h5.of_dvd ?_;obtain⟨m,hm⟩:=rU (D:=s8 cash cs) hk;exact⟨m,by rw[hm,Nat.mul_assoc]⟩
theorem Mu {i:Nat} (hi:i<cash.length) {l l':List ClR} (hl:cs=l++l'):szR 598 (sA cash cs (ab cash cs).gr i l):=by
 obtain⟨M,h1,⟨a,h2,h3⟩,-,h4⟩:=pA hs
 have hpn:∀ m:List ClR,(∀ c∈m,c∈cs)→0≤sumC (m.map bm) fun c=>if c.to=(i:Int) then (ab cash cs).pay (ab cash cs).gr c else 0:=fun m hm=>dA fun y hy=>by
  obtain⟨c,hc,rfl⟩:=List.mem_map.1 hy
  try dsimp only
  split
  ·exact hs.ok.pay_nonneg _ (ahV (hm c hc))
  ·exact Rat.le_refl
 have hm1:∀ c∈l,c∈cs:=fun c hc=>by rw[hl];simp [hc]
 have hm2:∀ c∈l',c∈cs:=fun c hc=>by rw[hl];simp [hc]
 have hc0:(0:Rat)≤((cash.getD i 0:Int):Rat):=by have:=(hs.cash i).1;exact_mod_cast this
 have hd:DenBy M (sA cash cs (ab cash cs).gr i l):=by
  unfold sA;refine (DenBy.int _ _).add (DenBy.sumC fun y hy=>?_);obtain⟨c,hc,rfl⟩:=List.mem_map.1 hy
  split
  ·exact h4 c (hm1 c hc)
  ·exact DenBy.zero _
 have h0:0≤sA cash cs (ab cash cs).gr i l:=by
  have:=hpn l hm1;unfold sA;grind
 have hle:sA cash cs (ab cash cs).gr i l≤(ab cash cs).gr i:=by
  rw[(rB hs.ok).1 i hi]
  have e:(ab cash cs).phi (ab cash cs).gr i=sA cash cs (ab cash cs).gr i l+sumC (l'.map bm) fun c=>if c.to=(i:Int) then (ab cash cs).pay (ab cash cs).gr c else 0:=by
   have e2:(ab cash cs).phi (ab cash cs).gr i=((cash.getD i 0:Int):Rat)+sumC (cs.map bm) fun c=>if c.to=(i:Int) then (ab cash cs).pay (ab cash cs).gr c else 0:=rfl
   rw[e2];unfold sA;have e3:sumC (cs.map bm) (fun c=>if c.to=(i:Int) then (ab cash cs).pay (ab cash cs).gr c else 0)=sumC ((l++l').map bm) fun c=>if c.to=(i:Int) then (ab cash cs).pay (ab cash cs).gr c else 0:=by rw[←hl]
   rw[e3,ahA,jc];grind
  have:=hpn l' hm2;grind
 exact (hd.sz h1 h3 h0 (e:=51) (Rat.le_trans hle (Iq hs hi))).mono (by omega)
theorem L1:uA cash cs (ab cash cs).gr:=fun i hi=>by
 have key:∀ n (l l':List ClR),l.length=n→cs=l++l'→pw cash cs (ab cash cs).gr i l=some (sA cash cs (ab cash cs).gr i l):=by
  intro n
  induction n with
  | zero =>
   intro l l' hl _;have:l=[]:=List.length_eq_zero_iff.1 hl;subst this;rw[AY];unfold sA;rw[ahW,sumC,ahU]
  | succ n ih =>
   intro l l' hl hcs;rcases ahx l with h0 | ⟨m,c,rfl⟩
   ·subst h0;cases hl
   ·rw[ahy] at *
    simp only[ahq,ahr] at hl;have hc:c∈cs:=by rw[hcs];simp
    have hcm:cs=m++([c]++l'):=by rw[hcs,List.append_assoc]
    rw[mL,Kl hs.right _ i m hc,ih m _ (by omega) hcm];unfold o8
    by_cases hto:c.2.1=(i:Int)
    ·rw[if_pos hto,if_pos hto,ahX,if_pos]
     refine ig (Mu hs hi hcm) (b:=482) ?_ (by omega);rw[←E9 hs.right _ hc];exact xT hs hc
    ·rw[if_neg hto,if_neg hto,ahU]
 have h1:=key _ cs [] rfl (by simp);rw[h1,(rB hs.ok).1 i hi]
 rfl
end
end Go.Mini
namespace Go.Mini
open Go
set_option maxRecDepth 10000
set_option maxHeartbeats 4000000
theorem FH (x:Rat):x*(x.den:Rat)=(x.num:Rat):=by
 have h:(Rat.divInt x.num x.den)=x:=Rat.num_divInt_den x;rw[Rat.divInt_eq_div] at h;have h0:((x.den:Int):Rat)≠0:=by have:=x.den_nz;exact_mod_cast this
 have h2:(x.num:Rat) / ((x.den:Int):Rat)*((x.den:Int):Rat)=(x.num:Rat):=Rat.div_mul_cancel h0;rw[h,ahY] at h2;exact h2
theorem FX {x y:Rat} (h:ia x y=true):cr (x+y):=by
 unfold ia at h;simp only[ahZ] at h;obtain⟨-,-,h3,h4⟩:=h
 have hd:((x.den:Int)*y.den)≠0:=by
  have h1:=x.den_nz;have h2:=y.den_nz;exact Int.mul_ne_zero (by omega) (by omega)
 have e:(x+y)*(((x.den:Int)*y.den:Int):Rat)=((x.num*y.den+y.num*x.den:Int):Rat):=by
  have e1:x*(x.den:Rat)=(x.num:Rat):=FH x;have e2:y*(y.den:Rat)=(y.num:Rat):=FH y;rw[Rat.intCast_add,ah0,ah0,ah0,ahY,ahY,←e1,←e2];grind
 obtain⟨f1,f2⟩:=fM hd e;have:=gX h3;have:=gX h4;exact⟨by omega,by omega⟩
theorem Lq {x y:Rat} (hx:cr x) (hy:cr y):lj [.agg (ad (ah x)),.agg (ad (ah y))]=some (.same (.tup [.agg (ad (qD (ia x y) (x+y)).1),.int .i64 (qD (ia x y) (x+y)).2])):=by
 have h1:=d8 hx;have h2:=d8 hy;have:=xt (ah x).1.1 (ah x).1.2 (ah x).2.1 (ah x).2.2 (ah y).1.1 (ah y).1.2 (ah y).2.1 (ah y).2.2 ⟨h1.1,h1.2,h2.1,h2.2⟩;exact this.trans (by show some (PRes.same (bD (s9 (ah x) (ah y))))=_;rw[ua hx hy];rfl)
noncomputable def zo:List Data→Option PRes:=FF (α:=Int × (List Int) × Int × (List Int) × Int × (List Int) × Int × (List Int)) (fun (s,l,s2,l2,s3,l3,s4,l4)=>([.agg [.int .i64 s,.sl (l.map aa),.int .i64 s2,.sl (l2.map aa)],.agg [.int .i64 s3,.sl (l3.map aa),.int .i64 s4,.sl (l4.map aa)]]:List Data)) (fun (s,l,s2,l2,s3,l3,s4,l4)=>aH (l.length≤1000000∧l2.length≤1000000∧l3.length≤1000000∧l4.length≤1000000) (.same (.bool (lm ((s,l),(s2,l2)) ((s3,l3),(s4,l4))==0))))
theorem Cb:∀ a b:Int × (List Int) × Int × (List Int) × Int × (List Int) × Int × (List Int),(fun (s,l,s2,l2,s3,l3,s4,l4)=>([.agg [.int .i64 s,.sl (l.map aa),.int .i64 s2,.sl (l2.map aa)],.agg [.int .i64 s3,.sl (l3.map aa),.int .i64 s4,.sl (l4.map aa)]]:List Data)) a=(fun (s,l,s2,l2,s3,l3,s4,l4)=>([.agg [.int .i64 s,.sl (l.map aa),.int .i64 s2,.sl (l2.map aa)],.agg [.int .i64 s3,.sl (l3.map aa),.int .i64 s4,.sl (l4.map aa)]]:List Data)) b→a=b:=by
  rintro⟨s1,l1,s21,l21,s31,l31,s41,l41⟩ ⟨s2,l2,s22,l22,s32,l32,s42,l42⟩ h;simp only[List.cons.injEq,Data.agg.injEq,Data.int.injEq,Data.sl.injEq,and_true,true_and] at h;obtain⟨⟨h1,h2,h3,h4⟩,⟨h5,h6,h7,h8⟩⟩:=h;rw[h1,af aj _ _ h2,h3,af aj _ _ h4,h5,af aj _ _ h6,h7,af aj _ _ h8]
@[go_sem] theorem Ol (s:Int) (l:List Int) (s2:Int) (l2:List Int) (s3:Int) (l3:List Int) (s4:Int) (l4:List Int) (hc:l.length≤1000000∧l2.length≤1000000∧l3.length≤1000000∧l4.length≤1000000):zo [.agg [.int .i64 s,.sl (l.map aa),.int .i64 s2,.sl (l2.map aa)],.agg [.int .i64 s3,.sl (l3.map aa),.int .i64 s4,.sl (l4.map aa)]]=some (.same (.bool (lm ((s,l),(s2,l2)) ((s3,l3),(s4,l4))==0))):=(aY Cb (s,l,s2,l2,s3,l3,s4,l4)).trans (al hc _)
theorem Nc (T:Tab) (aq:T aW=mkE dt) (s:Int) (l:List Int) (s2:Int) (l2:List Int) (s3:Int) (l3:List Int) (s4:Int) (l4:List Int) (hc:l.length≤1000000∧l2.length≤1000000∧l3.length≤1000000∧l4.length≤1000000) :
  wp T mf_clear_Fits_2.body (bF mf_clear_Fits_2.res (.same (.bool (lm ((s,l),(s2,l2)) ((s3,l3),(s4,l4))==0)))) ⟨ax [.dat (.agg [.int .i64 s,.sl (l.map aa),.int .i64 s2,.sl (l2.map aa)]),.dat (.agg [.int .i64 s3,.sl (l3.map aa),.int .i64 s4,.sl (l4.map aa)])],emp⟩:=by
 refine ap ?_;simp only[mf_clear_Fits_2];obtain⟨o1,o2,o3,o4⟩:=hc;refine qI ?_
 repeat' (intro h<;>simp only[h,go_sem,go_sem_proc,ahG,aq,o1,o2,o3,o4]<;>try refine qS ?_ ?_)
def j8:List aG→List aG→Bool
 | [],[]=>true
 | a::l,b::m=>(lm a b==0)&&j8 l m
 | _,_=>false
theorem Ci:∀ (a b:List aG),a.length≠b.length→j8 a b=false
 | [],[],h=>absurd rfl h
 | [],_::_,_=>rfl
 | _::_,[],_=>rfl
 | a::l,b::m,h=>by
  unfold j8;rw[Ci l m (by simpa using h),ah1]
theorem FZ {a b:List aG} {i:Nat} {x y:aG} (ha:a[i]?=some x) (hb:b[i]?=some y) (h:j8 (a.take i) (b.take i)=true) (hc:(lm x y==0)=false):j8 a b=false:=by
 induction i generalizing a b with
 | zero =>
  cases a with
  | nil=>cases ha
  | cons a l =>
   cases b with
   | nil=>cases hb
   | cons b m =>
    simp only[ah2,Option.some.injEq] at ha hb;subst ha hb;rw[j8,hc,ah3]
 | succ i ih =>
  cases a with
  | nil=>cases ha
  | cons a l =>
   cases b with
   | nil=>cases hb
   | cons b m =>
    simp only[ah4] at ha hb;rw[ah5,ah5,j8,ahZ] at h;rw[j8,ih ha hb h.2,ah1]
theorem Gp {a b:List aG} {i:Nat} {x y:aG} (ha:a[i]?=some x) (hb:b[i]?=some y) (h:j8 (a.take i) (b.take i)=true) (hc:(lm x y==0)=true):j8 (a.take (i+1)) (b.take (i+1))=true:=by
 induction i generalizing a b with
 | zero =>
  cases a with
  | nil=>cases ha
  | cons a l =>
   cases b with
   | nil=>cases hb
   | cons b m =>
    simp only[ah2,Option.some.injEq] at ha hb;subst ha hb;simp [j8,hc]
 | succ i ih =>
  cases a with
  | nil=>cases ha
  | cons a l =>
   cases b with
   | nil=>cases hb
   | cons b m =>
    simp only[ah4] at ha hb;rw[ah5,ah5,j8,ahZ] at h;rw[ah5,ah5,j8,h.1,ih ha hb h.2];rfl
noncomputable def u7:List Data→Option PRes:=FF (α:=(List aG) × (List aG)) (fun (a,b)=>([.sl (a.map ad),.sl (b.map ad),.fn dy []]:List Data)) (fun (a,b)=>aH (okL a∧okL b) (.same (.bool (j8 a b))))
theorem zi:∀ a b:(List aG) × (List aG),(fun (a,b)=>([.sl (a.map ad),.sl (b.map ad),.fn dy []]:List Data)) a=(fun (a,b)=>([.sl (a.map ad),.sl (b.map ad),.fn dy []]:List Data)) b→a=b:=by
  rintro⟨a1,b1⟩ ⟨a2,b2⟩ h;simp only[List.cons.injEq,Data.sl.injEq,and_true] at h;exact ahR (af cV _ _ h.1) (af cV _ _ h.2)
@[go_sem] theorem Ah (a:List aG) (b:List aG) (hc:okL a∧okL b):u7 [.sl (a.map ad),.sl (b.map ad),.fn dy []]=some (.same (.bool (j8 a b))):=(aY zi (a,b)).trans (al hc _)
theorem Kg (T:Tab) (nB:T dy=mkE zo) (a:List aG) (b:List aG) (hc:okL a∧okL b) :
  wp T mf_slices_EqualFunc_Frac.body (bF mf_slices_EqualFunc_Frac.res (.same (.bool (j8 a b)))) ⟨ax [.dat (.sl (a.map ad)),.dat (.sl (b.map ad)),.dat (.fn dy [])],emp⟩:=by
 refine ap ?_;simp only[mf_slices_EqualFunc_Frac];obtain⟨⟨ha,hao⟩,⟨hb,hbo⟩⟩:=hc;rcases hl:((a.length:Int)==(b.length:Int))
 ·rw[Ci a b (by have:=ne_of_beq_false hl;omega)]
  refine qI ?_
  repeat' (intro h<;>simp only[h,go_sem,go_sem_proc,ahG,nB,hl,ahB,bne,ah6]<;>try refine qS ?_ ?_)
 ·have hle:a.length=b.length:=by have:=eq_of_beq hl;omega
  simp only[go_sem,go_sem_proc,ahG,nB,hl,ahB,bne,ahS];refine ae [1,2,15,16] [] (fun (i:Nat) tm mem=>i≤a.length∧j8 (a.take i) (b.take i)=true∧tm 17 = .dat (.int .i64 i)) (fun i=>a.length-i) 0 (by refine⟨ah7 _,by simp [j8],rfl⟩) ?_;intro vs ms hvs hms;simp only[go_sem,go_sem_proc,ahG,nB,ahB] at hvs hms;subst hvs hms;rintro i tm mem hk hm ⟨hi,hall,e17⟩;simp only[go_sem,go_sem_proc,ahG,nB,List.cons.injEq] at hk hm;obtain⟨e1,e2,e15,e16⟩:=hk;rcases ahH (i<a.length) with hlt | hge
  ·have d1:decide ((i:Int)<(a.length:Int))=true:=decide_eq_true (by omega)
   have w3:IntKind.i64.wrap ((i:Int)+1)=((i+1:Nat):Int):=by rw[an _ (by omega) (by omega)];omega
   obtain⟨x,hx⟩:∃ x,a[i]?=some x:=⟨_,ahI hlt⟩;obtain⟨y,hy⟩:∃ x,b[i]?=some x:=⟨_,ahI (by omega)⟩;obtain⟨o1,o2⟩:=hao x (ahJ hx);obtain⟨o3,o4⟩:=hbo y (ahJ hy);have hst:=fun hc=>FZ hx hy hall hc
   have htk:=fun hc=>Gp hx hy hall hc
   obtain⟨⟨a1,a2⟩,⟨a3,a4⟩⟩:=x;obtain⟨⟨b1,b2⟩,⟨b3,b4⟩⟩:=y;dsimp only at o1 o2 o3 o4;rcases q:(lm ((a1,a2),(a3,a4)) ((b1,b2),(b3,b4))==0)
   ·rw[hst q]
    refine qI ?_
    repeat' (intro h<;>simp only[h,go_sem,go_sem_proc,ahG,nB,e1,e2,e15,e16,e17,hx,hy,d1,w3,o1,o2,o3,o4,q,ad,ahB,ahM,ah6]<;>try refine qS ?_ ?_)
   ·refine qI ?_
    repeat' (intro h<;>simp only[h,go_sem,go_sem_proc,ahG,nB,e1,e2,e15,e16,e17,hx,hy,d1,w3,o1,o2,o3,o4,q,ad,ahB,ahM,ahS]<;>try refine qS ?_ ?_)
    exact⟨i+1,by omega,by omega,htk q,rfl⟩
  ·have d1:decide ((i:Int)<(a.length:Int))=false:=decide_eq_false (by omega)
   rw[ahN (by omega),ahN (by omega)] at hall;rw[hall];refine qI ?_
   repeat' (intro h<;>simp only[h,go_sem,go_sem_proc,ahG,nB,e1,e2,e15,e16,e17,d1,ahB]<;>try refine qS ?_ ?_)
theorem No {α:Type} (p:α→Bool) (l:List α) (k:Nat) (hk:k<l.length) (h:∀ j (hj:j<k),p (l[j]'(by omega))=false) (h2:p l[k]=true):mE p l=k :=
 lv (fun x hx=>by
  obtain⟨j,hj⟩:=List.mem_iff_getElem?.1 hx;rw[List.getElem?_take] at hj
  by_cases hjk:j<k
  ·rw[if_pos hjk,ahI (by omega),Option.some.injEq] at hj
   rw[←hj];exact h j hjk
  ·rw[if_neg hjk] at hj;cases hj) (ahI hk) h2
theorem nP {d:Day} {h:Nat→Rat} {i:Nat}:∀ k,k≤10→d.fallRank h i k<10→(∀ j,10-k≤j→j<d.fallRank h i k→d.U i (j+1)≤h i)∧h i<d.U i (d.fallRank h i k+1)∧10-k≤d.fallRank h i k
 | 0,_,h1=>by rw[Day.fallRank] at h1;omega
 | k+1,hk,h1=>by
  rw[Day.fallRank] at h1 ⊢
  by_cases hc:h i<d.U i (10-(k+1)+1)
  ·rw[if_pos hc] at h1 ⊢
   exact⟨fun j h2 h3=>by omega,hc,ahk _⟩
  ·rw[if_neg hc] at h1 ⊢
   obtain⟨k1,k2,k3⟩:=nP k (by omega) h1;refine⟨fun j h2 h3=>?_,k2,by omega⟩
   by_cases hj:j=10-(k+1)
   ·rw[hj];grind
   ·exact k1 j (by omega) h3
theorem MA {cash:List Int} {cs:List ClR} (hs:SmallD cash cs) (h:Nat→Rat) (n i:Nat) (hi:i<n) (hlim:cr (h i)) (hf:(ab cash cs).fallRank h i 10<10):mE (pdI (.solve (bM n h) i)) (fL 10 fun k=>aP cs i (k+1:Nat))=((ab cash cs).fallRank h i 10:Int):=by
 obtain⟨h1,h2,h3⟩:=nP 10 (ahk _) hf;have hU:=fun k:Nat=>hs.upto i k
 have hp:∀ k:Nat,pdI (.solve (bM n h) i) (aP cs i (k+1:Nat))=decide (h i<(ab cash cs).U i (k+1)):=fun k=>by
  have hd:(bM n h).getD i cj=ah (h i):=by rw[ahm,eM h hi];rfl
  have iU:ct (aP cs i (k+1:Nat)):=dX (by have:=hU (k+1);omega) (by have:=hU (k+1);omega);simp only[pdI];rw[hd,qU hlim (eT iU),pX,dQ hs.right]
 refine No _ _ _ (by rw[bU];exact hf) (fun j hj=>?_) ?_
 ·have e:=cX (fun k=>aP cs i (k+1:Nat)) (show j<10 by omega)
  rw[ahI (by rw[bU];omega),Option.some.injEq] at e;rw[e,hp];exact decide_eq_false (by have:=h1 j (by omega) hj;grind)
 ·have e:=cX (fun k=>aP cs i (k+1:Nat)) hf
  rw[ahI (by rw[bU];omega),Option.some.injEq] at e;rw[e,hp];exact decide_eq_true h2
def DebA.wf (a:DebA) (f:Nat→Nat):DebA:={ a with fl:=fL a.cash.length fun i=>(f i:Int) }
theorem DebA.wf_deb (a:DebA) (f:Nat→Nat) {i:Nat} (hi:i<a.cash.length):(a.wf f).deb i=(a.deb i).sf (f i):=by
 have:(fL a.cash.length fun i=>(f i:Int)).getD i 10=(f i:Int):=kq _ _ hi;unfold DebA.deb DebA.wf DebR.sf;dsimp only;rw[this]
theorem DebA.At.setf {a:DebA} {m:Mem} {f:Nat→Nat} (h:(a.wf f).At m) {i:Nat} (hi:i<a.cash.length) (r:Nat):(a.wf fun j=>if j=i then r else f j).At (ay m (228500+i) (a.gs.getD i 0) (dJ ((a.deb i).sf r))):=by
 refine⟨h.can,bU _ _,h.pl,h.gl,?_,fun j hj=>?_⟩
 ·have:=h.row
  simp only[ay];rw[if_neg (show ¬ ((228023:Nat)=228500+i) by omega)];exact this
 ·rw[DebA.wf_deb a _ hj]
  simp only[ay]
  by_cases hji:j=i
  ·subst hji
   rw[if_pos rfl,if_pos rfl]
   rfl
  ·rw[if_neg (show ¬ ((228500+j:Nat)=228500+i) by omega),if_neg hji]
   have:=h.blk j hj;rw[DebA.wf_deb a _ hj] at this;exact this
theorem DebA.wf_congr (a:DebA) {p q:Nat→Nat} (h:∀ i,i<a.cash.length→p i=q i):a.wf p=a.wf q:=by
 unfold DebA.wf;rw[ca fun i hi=>by rw[h i hi]]
theorem OY {n i:Nat} (f:Nat→Nat) (h:i<n):fOf (fL n fun i=>(f i:Int)) i=f i:=by
 unfold fOf;rw[kq _ _ h,ahQ]
theorem GU {x:DebR} (h:x.OK) {k g:Nat} {m:Mem} (hm:m k=some (g,dJ x)) (n:Nat):toD (n+1) m (.ref k g 1 12 10)=some (.sl (x.us.tail.map aa)):=by
 have e:cut (dJ x) 12 10=some (x.us.tail.map iC):=by
  unfold cut;rw[if_pos (by rw[jS h];omega)]
  congr 1
  obtain⟨c,cl,us,f,p⟩:=x;obtain⟨h1,h2⟩:=h;dsimp only at h1 h2
  cases us with
  | nil=>cases h2
  | cons u us =>
   have hl:us.length=10:=by simpa using h2
   unfold dJ;dsimp only;rw[ah8,List.drop_append,List.drop_eq_nil_of_le (by rw[ahB];omega),ahB,h1,List.nil_append,ah9];rw[show 11-10=1 from rfl,List.cons_append,ah8,aia,List.take_append_of_le_length (by rw[ahB];omega),ahN (by rw[ahB];omega)]
   rfl
 have e2:∀ l:List Int,(l.map iC).mapM (toD n m)=some (l.map fun z=>Data.int .i64 z):=by
  intro l
  induction l with
  | nil=>rfl
  | cons a l ih =>
   rw[ah9,aib,ih];rw[show toD n m (iC a)=some (.int .i64 a) from te n _]
   rfl
 have e3:∀ l:List Int,chunk 1 l.length (l.map fun z=>Data.int .i64 z)=l.map aa:=by
  intro l
  induction l with
  | nil=>rfl
  | cons a l ih=>simp only[aic,ah9,chunk,ah5,ahF,ah8,aia,ih];rfl
 have hl:x.us.tail.length=10:=by rw[List.length_tail,h.us]
 unfold toD;rw[hm];dsimp only;rw[if_pos rfl,ahL,e];dsimp only;rw[e2];have:=e3 x.us.tail;rw[hl] at this;rw[ahP,this]
theorem DebA.At.up {a:DebA} {m:Mem} (h:a.At m) (hn:a.cash.length≤5) {k g:Nat} {cs:List MV} (hk:k / 1000≠228):a.At (ay m k g cs) :=
 ⟨h.can,h.fl,h.pl,h.gl,by rw[aJ (by omega)];exact h.row,fun i hi=>by rw[aJ (by omega)];exact h.blk i hi⟩
theorem Mx {α:Type} (n:Nat) (q:Nat→α):(fL (n+1) q).tail=fL n fun k=>q (k+1):=by
 unfold fL;rw[List.range_succ_eq_map,ah9,List.tail_cons,aid]
 rfl
theorem Ez {m:Mem} {k g:Nat} {d:Data} (hm:m k=some (g,[.dat d])) (n:Nat):toD (n+1) m (.ptr k g 0)=some (.ptr [d]):=by
 unfold toD;rw[hm];dsimp only;rw[if_pos ⟨rfl,ah7 _⟩,aia,aib,te]
 rfl
theorem lk (n k g sz o l:Nat):toD (n+1) emp (.ref k g sz o l)=none:=by
 unfold toD;rfl
noncomputable def fiR (d:Day) (f:Nat→Nat) (h:Nat→Rat) (i j:Nat):Nat:=if j<i then d.fallen f h j else f j
theorem Sa (T:Tab) (aF:T be=mkE fx) (aq:T aW=mkE dt) (eG:T cb=mkE oE) {K:bK→St→Prop} {kk:List Todo} (a:DebA) (hs:SmallD a.cash a.cs) (f:Nat→Nat) (hf:∀ i,i<a.cash.length→f i≤10) (h:Nat→Rat) (hlim:∀ i,i<a.cash.length→cr (h i)) (h0:∀ i,i<a.cash.length→0≤h i) (m0:Mem) (v1 v4 v7:MV) (G8 g10:Nat) (tm:Nat→MV) (m:Mem)
  (e1:tm 1=v1) (e4:tm 4=v4) (e6:tm 6 = .ref 228023 a.g 1 0 a.cash.length) (e7:tm 7=v7) (e8:tm 8 = .ptr 217008 G8 0) (e10:tm 10 = .ref 217057 g10 1 0 0) (e31:tm 31 = .ref 228023 a.g 1 0 a.cash.length) (e32:tm 32 = .dat (.int .i64 a.cash.length)) (e33:tm 33 = .dat (.int .i64 0))
  (hat:(a.wf f).At m) (m8:m0 217008=some (G8,[.dat (.sl ((bM a.cash.length h).map ad))])) (m57:m 217057=some (g10,[])) (hfr:∀ k,k / 1000≠228→k≠217011→k≠217057→m k=m0 k)
  (hK:∀ tm' m' g',tm' 1=v1→tm' 4=v4→tm' 6 = .ref 228023 a.g 1 0 a.cash.length→tm' 7=v7→tm' 8 = .ptr 217008 G8 0→tm' 10 = .ref 217057 g' 1 0 (gM (ab a.cash a.cs) f h a.cash.length).length→m' 217057=some (g',aC gU (gM (ab a.cash a.cs) f h a.cash.length))→(a.wf ((ab a.cash a.cs).fallen f h)).At m'→(∀ k,k / 1000≠228→k≠217011→k≠217057→m' k=m0 k)→kont T K kk (.exit 2) ⟨tm',m'⟩) :
  wp T (mf_clear_Solve.body.sub [1,1,1,1,0,0,0,0,1,1,1,0,1,0,0]) (kont T K kk) ⟨tm,m⟩:=by
 simp only[mf_clear_Solve,MCode.sub];have hn:=hs.n5;have hd:=hs.ok
 refine ae [1,4,6,7,8,31,32] [] (fun ((i,g):Nat × Nat) tm m=>i≤a.cash.length∧tm 33 = .dat (.int .i64 i)∧tm 10 = .ref 217057 g 1 0 (gM (ab a.cash a.cs) f h i).length∧m 217057=some (g,aC gU (gM (ab a.cash a.cs) f h i))∧(a.wf (fiR (ab a.cash a.cs) f h i)).At m∧∀ k,k / 1000≠228→k≠217011→k≠217057→m k=m0 k) (fun (i,_)=>a.cash.length-i) (0,g10) (by
  refine⟨by omega,e33,e10,m57,?_,hfr⟩
  rw[a.wf_congr (q:=f) fun j _=>by unfold fiR;rw[if_neg (by omega)]]
  exact hat) ?_
 intro vs ms hvs hms;simp only[go_sem,go_sem_proc,ahG,e1,e4,e6,e7,e8,e31,e32] at hvs hms;subst hvs hms;clear e1 e4 e6 e7 e8 e10 e31 e32 e33 hat m57 hfr tm m;rintro⟨i,g⟩ tm m hk-⟨hi,e33,e10,m57,hat,hfr⟩;simp only[go_sem,go_sem_proc,ahG,List.cons.injEq] at hk;obtain⟨e1,e4,e6,e7,e8,e31,e32⟩:=hk;rcases ahH (i<a.cash.length) with hlt | hge
 ·have d1:decide ((i:Int)<(a.cash.length:Int))=true:=decide_eq_true (by omega)
  have w3:IntKind.i64.wrap ((i:Int)+1)=((i+1:Nat):Int):=by rw[an _ (by omega) (by omega)];omega
  have hf10:=hf i hlt;have hfi:fiR (ab a.cash a.cs) f h i i=f i:=by unfold fiR;rw[if_neg (by omega)]
  have hrow:m 228023=some (a.g,fL a.cash.length fun i => .ptr (228500+i) (a.gs.getD i 0) 0):=hat.row;have hblk:m (228500+i)=some (a.gs.getD i 0,_):=hat.blk i hlt;rw[DebA.wf_deb a _ hlt,hfi] at hblk;have q8:=(hfr 217008 (by decide) (by decide) (by decide)).trans m8;have hri:=nE (cX (fun i=>MV.ptr (228500+i) (a.gs.getD i 0) 0) hlt);have hrl:(fL a.cash.length fun i=>MV.ptr (228500+i) (a.gs.getD i 0) 0).length=a.cash.length:=bU _ _;have hok:((a.deb i).sf (f i)).OK:=⟨(a.deb_ok i).cl,(a.deb_ok i).us⟩;have hlen:=jS hok;have qf:List.take 1 (List.drop 22 (dJ ((a.deb i).sf (f i))))=[iC (f i:Int)]:=z7 hok;have qu:=uz hok (k:=f i) (z:=aP a.cs i (f i:Nat)) (cX _ (by omega));have qs:_=dJ ((a.deb i).sf ((ab a.cash a.cs).fallRank h i 10)):=Ih hok ((ab a.cash a.cs).fallRank h i 10:Nat);have l1:i+1≤a.cash.length:=by omega
  have l2:f i<11:=by omega
  have l3:(11+f i+1≤24)=True:=eq_true (by omega);have hU:=hs.upto i (f i);have iU:ct (aP a.cs i (f i:Nat)):=dX (by omega) (by omega);have hw:=eP _ iU;have hcmp:=fJ (hlim i hlt) (eT iU);have hcast:=dQ hs.right i (f i);have hge':decide (kK (h i) ((aP a.cs i (f i:Nat):Int):Rat)≥0)=decide (((aP a.cs i (f i:Nat):Int):Rat)≤h i):=sS;have hfs:=yL (ab a.cash a.cs) f h i;rw[←hcast] at hfs;have hvg:=eM h hlt;have hfl5:=Cj (ab a.cash a.cs) f h i;have hap:=dl io xp 217057 g 8 (gM (ab a.cash a.cs) f h i) i (cs:=[.dat (.int .i64 i)]) rfl (by omega) (by omega);have hslice:=fun (m2:Mem) (hm2:m2 (228500+i)=some (a.gs.getD i 0,dJ ((a.deb i).sf (f i)))) n=>GU hok hm2 n
  have hus:((a.deb i).sf (f i)).us.tail=fL 10 fun k=>aP a.cs i (k+1:Nat):=Mx 10 _
  simp only[hus] at hslice
  have hnf:¬ h i<((aP a.cs i (f i:Nat):Int):Rat)→a.wf (fiR (ab a.cash a.cs) f h (i+1))=a.wf (fiR (ab a.cash a.cs) f h i):=fun hh=>a.wf_congr fun j _=>by
   unfold fiR
   by_cases hj:j=i
   ·subst hj
    rw[if_pos (by omega),if_neg (by omega)];unfold Day.fallen;rw[if_neg (by rw[←hcast];exact fun x=>hh x.2)]
   ·by_cases hj2:j<i
    ·rw[if_pos hj2,if_pos (by omega)]
    ·rw[if_neg hj2,if_neg (by omega)]
  have hyf:h i<((aP a.cs i (f i:Nat):Int):Rat)→a.wf (fiR (ab a.cash a.cs) f h (i+1))=a.wf (fun j=>if j=i then (ab a.cash a.cs).fallRank h i 10 else fiR (ab a.cash a.cs) f h i j):=fun hh=>a.wf_congr fun j _=>by
   unfold fiR
   by_cases hj:j=i
   ·subst hj
    rw[if_pos (by omega),if_pos rfl];unfold Day.fallen;rw[if_pos ⟨hlt,by rw[←hcast];exact hh⟩]
   ·rw[if_neg hj]
    by_cases hj2:j<i
    ·rw[if_pos hj2,if_pos (by omega)]
    ·rw[if_neg hj2,if_neg (by omega)]
  have hset:=fun (M:Mem) (hM:(a.wf (fiR (ab a.cash a.cs) f h i)).At M)=>hM.setf hlt ((ab a.cash a.cs).fallRank h i 10)
  have hfk:h i<((aP a.cs i (f i:Nat):Int):Rat)→(ab a.cash a.cs).fallRank h i 10<10:=fun hh=>by
   rw[hcast] at hh;have:=hd.U_mono i hf10;rcases lT hd (h:=h) (i:=i) 10 (ahk _) (by rw[aho,Day.U_zero];exact h0 i hlt) with ⟨-,e⟩ | ⟨-,e,-⟩
   ·grind
   ·exact e
  have hixr:=fun hh=>MA hs h a.cash.length i hlt (hlim i hlt) (hfk hh)
  have hix:=Eg (fL 10 fun k=>aP a.cs i (k+1:Nat)) (.solve (bM a.cash.length h) i) ⟨by rw[bU];omega,by rw[de];exact hlt,ti (by omega) hlim,fun x hx=>by
   obtain⟨k,-,rfl⟩:=List.mem_map.1 hx;have:=hs.upto i (k+1:Nat);exact dX (by omega) (by omega)⟩
  simp only[ny] at hix;generalize hSL:(fL 10 fun k=>aP a.cs i (k+1:Nat))=SL at *;generalize hRW:(fL a.cash.length fun i=>MV.ptr (228500+i) (a.gs.getD i 0) 0)=RW at *;have hKd2:(228500+i) / 1000=228:=by omega
  generalize hKd:228500+i=KK at *;generalize hDD:dJ ((a.deb i).sf (f i))=DC at *;have n11:(KK=217011)=False:=eq_false (by omega);have n57:(KK=217057)=False:=eq_false (by omega);have n57':(217057=KK)=False:=eq_false (by omega);have hH1:ah (h i)=ah (h i):=rfl;generalize hH:ah (h i)=H at *;generalize hX:ah ((aP a.cs i (f i:Nat):Int):Rat)=X at *;obtain⟨⟨b1,b2⟩,⟨b3,b4⟩⟩:=X;obtain⟨⟨a1,a2⟩,⟨a3,a4⟩⟩:=H;simp only[ad] at hw hcmp;rcases q1:decide (((aP a.cs i (f i:Nat):Int):Rat)≤h i)
  ·have hh:h i<((aP a.cs i (f i:Nat):Int):Rat):=by have:=of_decide_eq_false q1;grind
   rw[if_pos hh] at hfs;rw[←hfs] at hap;rw[hixr hh] at hix;simp only[←hyf hh] at hset;have hl1:(gM (ab a.cash a.cs) f h (i+1)).length=(gM (ab a.cash a.cs) f h i).length+1:=by rw[hfs,ahq];rfl
   have hb8:∀ m2:Mem,m2 217008=some (G8,[.dat (.sl ((bM a.cash.length h).map ad))])→toD 5 m2 (.ptr 217008 G8 0)=some (.ptr [.sl ((bM a.cash.length h).map ad)]):=fun m2 hm2=>Ez hm2 4
   have hb11:∀ (m2:Mem) (g:Nat),m2 217011=some (g,[.dat (.int .i64 i)])→toD 5 m2 (.ptr 217011 g 0)=some (.ptr [.int .i64 i]):=fun m2 g hm2=>Ez hm2 4
   have hempr:=lk 5 KK (a.gs.getD i 0) 1 12 10;simp only[go_sem,go_sem_proc,ahG,aF,aq,eG,e1,e4,e6,e7,e8,e10,e31,e32,e33,hrow,hblk,q8,m57,hri,hrl,hlen,qf,qu,qs,l1,l2,l3,hlt,hw,hcmp,hge',q1,hvg,hap,hslice,hix,hb8,hb11,hempr,n11,n57,n57',d1,w3,ad,iC,ahL,ahB,ahM,aie,scalar,ro,aif,aig]
   repeat' (first|refine qS ?_ ?_|fail)<;>intro h<;>simp only[h,go_sem,go_sem_proc,ahG,aF,aq,eG,e1,e4,e6,e7,e8,e10,e31,e32,e33,hrow,hblk,q8,m57,hri,hrl,hlen,qf,qu,qs,l1,l2,l3,hlt,hw,hcmp,hge',q1,hvg,hap,hslice,hix,hb8,hb11,hempr,n11,n57,n57',d1,w3,ad,iC,ahL,ahB,ahM,aie,scalar,ro,aif,aig]
   refine⟨(i+1,g+1),by dsimp only;omega,by dsimp only;omega,rfl,by rw[hl1],rfl,hset _ (((hat.up hn (by decide)).up hn (by decide)).up hn (by decide)),fun k h1 h2 h3=>?_⟩
   rw[if_neg (show ¬ k=KK by intro hk;rw[hk] at h1;exact h1 hKd2),if_neg h3,if_neg h2,if_neg h2];exact hfr k h1 h2 h3
  ·have hh:¬ h i<((aP a.cs i (f i:Nat):Int):Rat):=by have:=of_decide_eq_true q1;grind
   rw[if_neg hh] at hfs;simp only[go_sem,go_sem_proc,ahG,aF,aq,e1,e4,e6,e7,e8,e10,e31,e32,e33,hrow,hblk,q8,hri,hrl,hlen,qf,qu,l1,l2,l3,hlt,hw,hcmp,hge',q1,hvg,n11,d1,w3,ad,iC,ahL,ahB,ahM]
   repeat' (first|refine qS ?_ ?_|fail)<;>intro h<;>simp only[h,go_sem,go_sem_proc,ahG,aF,aq,e1,e4,e6,e7,e8,e10,e31,e32,e33,hrow,hblk,q8,hri,hrl,hlen,qf,qu,l1,l2,l3,hlt,hw,hcmp,hge',q1,hvg,n11,d1,w3,ad,iC,ahL,ahB,ahM]
   refine⟨(i+1,g),by dsimp only;omega,by dsimp only;omega,rfl,by rw[hfs],by rw[hfs];exact m57,?_,fun k h1 h2 h3=>?_⟩
   ·rw[hnf hh]
    exact (hat.up hn (by decide)).up hn (by decide)
   ·rw[if_neg h2,if_neg h2]
    exact hfr k h1 h2 h3
 ·have d1:decide ((i:Int)<(a.cash.length:Int))=false:=decide_eq_false (by omega)
  obtain rfl:i=a.cash.length:=by omega
  rw[a.wf_congr (q:=(ab a.cash a.cs).fallen f h) fun j hj=>by unfold fiR;rw[if_pos hj]] at hat
  simp only[go_sem,go_sem_proc,ahG,e1,e4,e6,e7,e8,e10,e31,e32,e33,d1]
  repeat' (first|refine qS ?_ ?_|fail)<;>intro h<;>simp only[h,go_sem,go_sem_proc,ahG,e1,e4,e6,e7,e8,e10,e31,e32,e33,d1]
  refine hK _ _ g ?_ ?_ ?_ ?_ ?_ ?_ m57 hat hfr<;>simp only[aR,ahO,if_false,e1,e4,e6,e7,e8,e10]
noncomputable def sY (hv:List aG):List Rat:=hv.map pH
structure Es (cash:List Int) (cs:List ClR) (hv:List aG):Prop where
 n:cash.length≤1000000
 c:cs.length≤1000000
 o:okL hv
 sm:dq cash cs=true→SmallD cash cs
 sz:dq cash cs=true→hv.length=cash.length→hv.any (pdF bp)=false→∀ f∈hv,szR 460 (pH f)
open Classical in
noncomputable def Gx (cash:List Int) (cs:List ClR) (x:Nat→Rat):Bool:=decide (uA cash cs x)
open Classical in
theorem Au {cash:List Int} {cs:List ClR} {x:Nat→Rat}:Gx cash cs x=true↔uA cash cs x:=by
 unfold Gx;exact decide_eq_true_iff
open Classical in
theorem M8 {cash:List Int} {cs:List ClR} {x:Nat→Rat} (h:¬ uA cash cs x):Gx cash cs x=false:=by
 unfold Gx;exact decide_eq_false h
noncomputable def w9 (cash:List Int) (cs:List ClR) (hv:List aG):Bool:=dq cash cs&&(decide (hv.length=cash.length)&&(!hv.any (pdF bp)&&Gx cash cs fun i=>(sY hv).getD i 0))
theorem LC {hv:List aG} (h:hv.any (pdF bp)=false):hv=(sY hv).map ah∧∀ x∈sY hv,0≤x∧cr x:=by
 rw[aih] at h
 have h1:∀ f∈hv,f=ah (pH f)∧cr (pH f)∧0≤pH f:=fun f hf=>by
  have h2:=h f hf;rw[rC] at h2;simp only[Bool.or_eq_true,aii,decide_eq_true_eq,not_or] at h2;obtain⟨h3,h4⟩:=h2;have h5:=px (f:=f) (by simpa using h3);refine⟨h5.1,h5.2,?_⟩;rw[h5.1] at h4;have:¬ (pH f).num.sign<0:=h4;have h6:decide ((pH f).num.sign<0)=decide (pH f<0):=pP;have h7:decide ((pH f).num.sign<0)=false:=decide_eq_false this;rw[h6] at h7;have:=of_decide_eq_false h7;grind
 refine⟨?_,fun x hx=>?_⟩
 ·unfold sY
  rw[aid];refine (aij hv).symm.trans (ahz fun f hf=>?_);exact (h1 f hf).1
 ·obtain⟨f,hf,rfl⟩:=List.mem_map.1 hx
  exact⟨(h1 f hf).2.2,(h1 f hf).2.1⟩
theorem Bj:∀ (a b:List Rat),(∀ x∈a,cr x)→(∀ x∈b,cr x)→(j8 (a.map ah) (b.map ah)=true↔a=b)
 | [],[],_,_=>by simp [j8]
 | [],_::_,_,_=>by simp [j8]
 | _::_,[],_,_=>by simp [j8]
 | x::a,y::b,ha,hb=>by
  have ih:=Bj a b (fun z hz=>ha z (aik _ hz)) fun z hz=>hb z (aik _ hz)
  rw[ah9,ah9,j8,ahZ,ih,List.cons.injEq,qU (ha x ail) (hb y ail)]
  have:(kK x y==0)=true↔x=y:=by
   have h1:=AU (x:=x) (y:=y);have h2:=pX (x:=x) (y:=y);rw[beq_iff_eq]
   constructor
   ·intro h
    rw[h] at h1 h2;have e1:¬ y<x:=of_decide_eq_false (h1.symm.trans rfl);have e2:¬ x<y:=of_decide_eq_false (h2.symm.trans rfl);grind
   ·intro h
    have e1:¬ y<x:=by grind
    have e2:¬ x<y:=by grind
    rw[decide_eq_false e1] at h1;rw[decide_eq_false e2] at h2;have:=of_decide_eq_false h1;have:=of_decide_eq_false h2;omega
  rw[this]
structure SumAt (cash:List Int) (cs:List ClR) (x:Nat→Rat) (l:List ClR) (s:Nat→Rat):Prop where
 a:∀ i,i<cash.length→pw cash cs x i l=some (s i)
 l:∀ i,i<cash.length→cr (s i)
theorem SumAt.skip {cash:List Int} {cs:List ClR} {x:Nat→Rat} {l:List ClR} {s:Nat→Rat} (h:SumAt cash cs x l s) {c:ClR} (hc:c.2.1<0):SumAt cash cs x (l++[c]) s:=by
 refine⟨fun i hi=>?_,h.l⟩
 rw[mL,h.a i hi];unfold o8;rw[if_neg (by omega)]
theorem SumAt.add {cash:List Int} {cs:List ClR} {x:Nat→Rat} {l:List ClR} {s:Nat→Rat} (h:SumAt cash cs x l s) {c:ClR} {t:Nat} (hc:c.2.1=(t:Int)) (hk:ia (s t) (cg cs (x c.1.toNat) c)=true):SumAt cash cs x (l++[c]) fun i=>if i=t then s t+cg cs (x c.1.toNat) c else s i:=by
 refine⟨fun i hi=>?_,fun i hi=>?_⟩
 ·rw[mL,h.a i hi]
  unfold o8
  by_cases hit:i=t
  ·subst hit
   rw[if_pos hc,ahX,if_pos hk,if_pos rfl]
  ·rw[if_neg (by omega),if_neg hit]
 ·by_cases hit:i=t
  ·rw[if_pos hit];exact FX hk
  ·rw[if_neg hit];exact h.l i hi
theorem JM {cash:List Int} {cs:List ClR} {x:Nat→Rat} {l m:List ClR} {s:Nat→Rat} (h:SumAt cash cs x l s) {c:ClR} {t:Nat} (ht:t<cash.length) (hc:c.2.1=(t:Int)) (hk:ia (s t) (cg cs (x c.1.toNat) c)=false) (hl:cs=(l++[c])++m):¬ uA cash cs x:=fun hf=>by
 have h1:=hf t ht
 have h2:pw cash cs x t (l++[c])=none:=by
  rw[mL,h.a t ht];unfold o8;rw[if_pos hc,ahX,hk];rfl
 have h3:=Hn h2 m;rw[←hl,h1] at h3
 cases h3
theorem Mv {cs:List ClR} (hok:∀ c∈cs,0≤c.2.2.2∧c.2.2.2≤33554432) (h12:cs.length≤12) {x:Rat} (hx:szR 460 x) {c:ClR} (hc:c∈cs):cr (cg cs x c):=by
 have hb:∀ (p:ClR→Prop) [DecidablePred p],0≤bt cs (fun c=>if p c then c.2.2.2 else 0)∧bt cs (fun c=>if p c then c.2.2.2 else 0)≤536870912:=fun p _=>by
  have:=tj (cs:=cs) (F:=fun c=>if p c then c.2.2.2 else 0) (B:=33554432) (by omega) fun c hc=>by
   have h1:=hok c hc
   try dsimp only
   split<;>omega
  omega
 have hU:=hb fun c'=>c'.1=c.1∧c'.2.2.1<c.2.2.1
 have hS:=hb fun c'=>c'.1=c.1∧c'.2.2.1=c.2.2.1
 rw[←KC] at hS;have ha:=hok c hc;have zA:szR 29 ((c.2.2.2:Int):Rat):=nz (by omega);have zS:szR 29 ((SI cs c.1 c.2.2.1:Int):Rat):=nz (by omega);have zU:szR 29 ((aP cs c.1 c.2.2.1:Int):Rat):=nz (by unfold aP;omega);unfold cg
 split
 ·exact du zA (by omega)
 ·have zp:szR 490 (pos (x-((aP cs c.1 c.2.2.1:Int):Rat))):=by
   unfold pos
   split
   ·exact (show szR 1 0 from⟨by decide,by decide⟩).mono (by omega)
   ·rw[Rat.sub_eq_add_neg];exact (JX hx (nu zU)).mono (by omega)
  by_cases h0:((SI cs c.1 c.2.2.1:Int):Rat)=0
  ·rw[h0,Rat.div_def,Rat.inv_zero,Rat.mul_zero,Rat.zero_mul]
   exact du (show szR 1 0 from⟨by decide,by decide⟩) (by omega)
  ·exact du (zd (PW zA zS h0) zp) (by omega)
noncomputable def tl:List Data→Option PRes:=FF (α:=(List Int) × (List ClR) × (List aG)) (fun (cash,cs,hv)=>([.sl (cash.map aa),.sl (cs.map clL),.sl (hv.map ad)]:List Data)) (fun (cash,cs,hv)=>aH (Es cash cs hv) (.same (.bool (w9 cash cs hv))))
theorem Bn:∀ a b:(List Int) × (List ClR) × (List aG),(fun (cash,cs,hv)=>([.sl (cash.map aa),.sl (cs.map clL),.sl (hv.map ad)]:List Data)) a=(fun (cash,cs,hv)=>([.sl (cash.map aa),.sl (cs.map clL),.sl (hv.map ad)]:List Data)) b→a=b:=by
  rintro⟨cash1,cs1,hv1⟩ ⟨cash2,cs2,hv2⟩ h;simp only[List.cons.injEq,Data.sl.injEq,and_true] at h;exact ahR (af aj _ _ h.1) (ahR (af fj _ _ h.2.1) (af cV _ _ h.2.2))
@[go_sem] theorem Da (cash:List Int) (cs:List ClR) (hv:List aG) (hc:Es cash cs hv):tl [.sl (cash.map aa),.sl (cs.map clL),.sl (hv.map ad)]=some (.same (.bool (w9 cash cs hv))):=(aY Bn (cash,cs,hv)).trans (al hc _)
theorem Mg (T:Tab) (bG:T gJ=mkE qn) (bO:T cD=mkE oI) (bY:T eU=mkE qq) (aF:T be=mkE fx) (bA:T cS=mkE lj) (cO:T fb=mkE u7) (cash:List Int) (cs:List ClR) (hv:List aG) (hc:Es cash cs hv) :
  wp T mf_clear_Fits.body (bF mf_clear_Fits.res (.same (.bool (w9 cash cs hv)))) ⟨ax [.dat (.sl (cash.map aa)),.dat (.sl (cs.map clL)),.dat (.sl (hv.map ad))],emp⟩:=by
 refine ap ?_;simp only[mf_clear_Fits];obtain⟨hn0,hc0,ho,hsm,hsz⟩:=hc;have hany:=yx hv bp ⟨ho,.inr rfl⟩;unfold w9;rcases hr:dq cash cs
 ·rw[ah3]
  simp only[go_sem,go_sem_proc,ahG,bG,bO,bY,aF,bA,cO,hn0,hc0,hr,ah6]
  repeat' (first|refine qS ?_ ?_|fail)<;>intro h<;>simp only[h,go_sem,go_sem_proc,ahG,bG,bO,bY,aF,bA,cO,hn0,hc0,hr,ah6]
 ·rw[aim]
  rcases hl:((hv.length:Int)==(cash.length:Int))
  ·rw[decide_eq_false (show ¬ hv.length=cash.length by have:=ne_of_beq_false hl;omega),ah3]
   simp only[go_sem,go_sem_proc,ahG,bG,bO,bY,aF,bA,cO,hn0,hc0,hr,hl,ahB,bne,ah6,ahS]
   repeat' (first|refine qS ?_ ?_|fail)<;>intro h<;>simp only[h,go_sem,go_sem_proc,ahG,bG,bO,bY,aF,bA,cO,hn0,hc0,hr,hl,ahB,bne,ah6,ahS]
  ·have hle:hv.length=cash.length:=by have:=eq_of_beq hl;omega
   rw[decide_eq_true hle,aim];rcases ha:hv.any (pdF bp)
   ·rw[ha] at hany
    rw[ah6,aim];have hs:=hsm hr;have hn:=hs.n5;have h12:=hs.c12;obtain⟨hve,hvx⟩:=LC ha;have hvz:=hsz hr hle ha;have hvl:(sY hv).length=cash.length:=by unfold sY;rw[ahB];exact hle
    have hrr:=(rightD_iff.1 hr).2.2.2
    have hpo:yl cs (sY hv):=⟨h12,by rw[hvl];exact hn,fun c hc=>by
     have h1:=hrr c hc;have h2:=hs.am c hc;rw[hvl];omega,fun x hx=>⟨(hvx x hx).1,by
     obtain⟨f,hf,rfl⟩:=List.mem_map.1 hx;exact hvz f hf⟩⟩
    have hpy:=ut cs (sY hv) hpo;rw[←hve] at hpy
    have hplim:∀ c∈cs,cr (cg cs ((sY hv).getD c.1.toNat 0) c):=fun c hc=>by
     have h1:=hrr c hc;refine Mv (fun c hc=>⟨(hrr c hc).2.2.2.2.2.2.1,hs.am c hc⟩) h12 ?_ hc;refine (hpo.x _ ?_).2;rw[ahm,ahI (by rw[hvl];omega)];exact List.getElem_mem _
    generalize hXX:sY hv=X at *;simp only[go_sem,go_sem_proc,ahG,bG,bO,bY,aF,bA,cO,hn0,hc0,hr,hl,hany,hpy,ahB,bne,ah6,ahS];refine ae [1,2,8,41,42] [] (fun ((i,g):Nat × Nat) tm m=>i≤cash.length∧tm 43 = .dat (.int .i64 i)∧tm 10 = .ref 218051 g 4 0 i∧m 218051=some (g,aC ad (bM i fun j=>((cash.getD j 0:Int):Rat)))) (fun (i,_)=>cash.length-i) (0,0) (by refine⟨by omega,rfl,rfl,rfl⟩) ?_
    intro vs ms hvs hms;simp only[go_sem,go_sem_proc,ahG,bG,bO,bY,aF,bA,cO,ahB] at hvs hms;subst hvs hms;rintro⟨i,g⟩ tm m hk-⟨hi,e43,e10,m51⟩;simp only[go_sem,go_sem_proc,ahG,bG,bO,bY,aF,bA,cO,List.cons.injEq] at hk;obtain⟨e1,e2,e8,e41,e42⟩:=hk;rcases ahH (i<cash.length) with hlt | hge
    ·have d1:decide ((i:Int)<(cash.length:Int))=true:=decide_eq_true (by omega)
     have w3:IntKind.i64.wrap ((i:Int)+1)=((i+1:Nat):Int):=by rw[an _ (by omega) (by omega)];omega
     obtain⟨y,hy⟩:∃ y,cash[i]?=some y:=⟨_,ahI hlt⟩;have hyd:cash.getD i 0=y:=by rw[ahm,hy];rfl
     have hyr:=(rightD_iff.1 hr).2.2.1 y (ahJ hy);have hw:=eP y (dX (by omega) (by omega));have hvs:=si i fun j=>((cash.getD j 0:Int):Rat)
     rw[hyd] at hvs;have hrl:(bM i fun j=>((cash.getD j 0:Int):Rat)).length=i:=de _ _;have hap:=fun (F:aG) cs hcs=>dl ce jz 218051 g 64 (bM i fun j=>((cash.getD j 0:Int):Rat)) F (cs:=cs) hcs (by omega) (by omega)
     simp only[hrl] at hap;generalize ah ((y:Int):Rat)=F at *;obtain⟨⟨a1,a2⟩,⟨a3,a4⟩⟩:=F;have hap':=hap ((a1,a2),(a3,a4)) _ rfl;rw[←hvs] at hap';simp only[ad,ah9,ahW] at hap' hw;simp only[go_sem,go_sem_proc,ahG,bG,bO,bY,aF,bA,cO,e1,e2,e8,e10,e41,e42,e43,m51,hy,d1,w3,hw,hap',aa,ahB,ahM]
     repeat' (first|refine qS ?_ ?_|fail)<;>intro h<;>simp only[h,go_sem,go_sem_proc,ahG,bG,bO,bY,aF,bA,cO,e1,e2,e8,e10,e41,e42,e43,m51,hy,d1,w3,hw,hap',aa,ahB,ahM]
     exact⟨(i+1,g+1),by dsimp only;omega,by dsimp only;omega,rfl,rfl,rfl⟩
    ·have d1:decide ((i:Int)<(cash.length:Int))=false:=decide_eq_false (by omega)
     obtain rfl:i=cash.length:=by omega
     simp only[go_sem,go_sem_proc,ahG,bG,bO,bY,aF,bA,cO,e1,e2,e8,e10,e41,e42,e43,d1,ahB]
     refine ae [2,8,10,53,54] [] (fun ((t,s):Nat × (Nat→Rat)) tm m=>t≤cs.length∧tm 55 = .dat (.int .i64 t)∧m 218051=some (g,aC ad (bM cash.length s))∧SumAt cash cs (fun i=>X.getD i 0) (cs.take t) s) (fun (t,_)=>cs.length-t) (0,fun j=>((cash.getD j 0:Int):Rat)) (by
      refine⟨by omega,rfl,m51,⟨fun i hi=>by rw[ahF,AY],fun i hi=>eT (dX (by have:=hs.cash i;omega) (by have:=hs.cash i;omega))⟩⟩) ?_
     intro vs ms hvs hms;simp only[go_sem,go_sem_proc,ahG,bG,bO,bY,aF,bA,cO,e2,e8,e10,ahB] at hvs hms;subst hvs hms;clear e1 e2 e8 e10 e41 e42 e43 m51 hany hpy tm m;rintro⟨t,s⟩ tm m hk-⟨ht,e55,m51,hsa⟩;simp only[go_sem,go_sem_proc,ahG,bG,bO,bY,aF,bA,cO,List.cons.injEq] at hk;obtain⟨e2,e8,e10,e53,e54⟩:=hk;rcases ahH (t<cs.length) with hlt | hge2
     ·have d1:decide ((t:Int)<(cs.length:Int))=true:=decide_eq_true (by omega)
      have w3:IntKind.i64.wrap ((t:Int)+1)=((t+1:Nat):Int):=by rw[an _ (by omega) (by omega)];omega
      obtain⟨⟨c1,c2,c3,c4⟩,hx⟩:∃ c,cs[t]?=some c:=⟨_,ahI hlt⟩;have hcm:=ahJ hx;have hrc:=hrr _ hcm;have hpl:=hplim _ hcm;dsimp only at hrc hpl;have htk:cs.take (t+1)=cs.take t++[(c1,c2,c3,c4)]:=by rw[ahK,hx];rfl
      rcases q:decide (c2<0)
      ·obtain⟨j,rfl⟩:∃ j:Nat,c2=(j:Int):=⟨c2.toNat,by have:=of_decide_eq_false q;omega⟩
       have hj:j<cash.length:=by omega
       have hsl:=hsa.l j hj;have hadd:=Lq hsl hpl;have hvg:=eM s hj;have hvl2:(bM cash.length s).length=cash.length:=de _ _;rcases hk:ia (s j) (cg cs (X.getD c1.toNat 0) (c1,(j:Int),c3,c4))
       ·have hnf:¬ uA cash cs fun i=>X.getD i 0:=JM hsa hj (c:=(c1,(j:Int),c3,c4)) rfl hk (m:=cs.drop (t+1)) (by rw[←htk,List.take_append_drop])
        rw[M8 hnf];rw[hk] at hadd;have hk0:qD false (s j+cg cs (X.getD c1.toNat 0) (c1,(j:Int),c3,c4))=(cj,6):=rfl;rw[hk0] at hadd;generalize bM cash.length s=R at *;generalize hP:ah (cg cs (X.getD c1.toNat 0) (c1,(j:Int),c3,c4))=P at *;generalize ah (s j)=F1 at *;obtain⟨⟨p1,p2⟩,⟨p3,p4⟩⟩:=P;obtain⟨⟨f1,f2⟩,⟨f3,f4⟩⟩:=F1;have t1:=AC hvg;have t2:=zR (l:=R) (k:=j) (by omega);simp only[ad,cj] at hadd;have h60:((6:Int)==0)=false:=rfl;simp only[go_sem,go_sem_proc,ahG,bG,bO,bY,aF,bA,cO,e2,e8,e10,e53,e54,e55,m51,hx,hP,d1,q,hj,hadd,t1,t2,clL,ad,ahB,ahM,ahW,h60,bne,ah6]
        repeat' (first|refine qS ?_ ?_|fail)<;>intro h<;>simp only[h,go_sem,go_sem_proc,ahG,bG,bO,bY,aF,bA,cO,e2,e8,e10,e53,e54,e55,m51,hx,hP,d1,q,hj,hadd,t1,t2,clL,ad,ahB,ahM,ahW,h60,bne,ah6]
       ·have hsn:=hsa.add (c:=(c1,(j:Int),c3,c4)) rfl hk
        rw[←htk] at hsn;dsimp only at hsn;rw[hk] at hadd;have hk0:qD true (s j+cg cs (X.getD c1.toNat 0) (c1,(j:Int),c3,c4))=(ah (s j+cg cs (X.getD c1.toNat 0) (c1,(j:Int),c3,c4)),0):=rfl;rw[hk0] at hadd;have hvf:=AQ (N:=cash.length) (k:=j) s (s j+cg cs (X.getD c1.toNat 0) (c1,(j:Int),c3,c4));generalize hR2:bM cash.length (fun i=>if i=j then s j+cg cs (X.getD c1.toNat 0) (c1,(j:Int),c3,c4) else s i)=R2 at *;generalize bM cash.length s=R at *;generalize ah (s j+cg cs (X.getD c1.toNat 0) (c1,(j:Int),c3,c4))=Q at *;generalize hP:ah (cg cs (X.getD c1.toNat 0) (c1,(j:Int),c3,c4))=P at *;generalize ah (s j)=F1 at *;obtain⟨⟨p1,p2⟩,⟨p3,p4⟩⟩:=P;obtain⟨⟨f1,f2⟩,⟨f3,f4⟩⟩:=F1;obtain⟨⟨g1,g2⟩,⟨g3,g4⟩⟩:=Q;have t1:=AC hvg;have t2:=zR (l:=R) (k:=j) (by omega);have t3:=Ml (l:=R) (k:=j) (by omega) g1 g2 g3 g4;rw[hvf] at t3;simp only[ad] at hadd;simp only[go_sem,go_sem_proc,ahG,bG,bO,bY,aF,bA,cO,e2,e8,e10,e53,e54,e55,m51,hx,hP,d1,w3,q,hj,hadd,t1,t2,t3,clL,ad,ahB,ahM,bne,beq_self_eq_true,ahS]
        repeat' (first|refine qS ?_ ?_|fail)<;>intro h<;>simp only[h,go_sem,go_sem_proc,ahG,bG,bO,bY,aF,bA,cO,e2,e8,e10,e53,e54,e55,m51,hx,hP,d1,w3,q,hj,hadd,t1,t2,t3,clL,ad,ahB,ahM,bne,beq_self_eq_true,ahS]
        exact⟨(t+1,fun i=>if i=j then s j+cg cs (X.getD c1.toNat 0) (c1,(j:Int),c3,c4) else s i),by dsimp only;omega,by dsimp only;omega,rfl,by rw[hR2],hsn⟩
      ·have hsn:=hsa.skip (c:=(c1,c2,c3,c4)) (of_decide_eq_true q)
       rw[←htk] at hsn;simp only[go_sem,go_sem_proc,ahG,bG,bO,bY,aF,bA,cO,e2,e8,e10,e53,e54,e55,m51,hx,d1,w3,q,clL,ahB,ahM]
       repeat' (first|refine qS ?_ ?_|fail)<;>intro h<;>simp only[h,go_sem,go_sem_proc,ahG,bG,bO,bY,aF,bA,cO,e2,e8,e10,e53,e54,e55,m51,hx,d1,w3,q,clL,ahB,ahM]
       exact⟨(t+1,s),by dsimp only;omega,by dsimp only;omega,rfl,rfl,hsn⟩
     ·have d1:decide ((t:Int)<(cs.length:Int))=false:=decide_eq_false (by omega)
      rw[ahN (by omega)] at hsa;have hvok:okL (bM cash.length s):=ti (by omega) hsa.l;have hF:=Ah (bM cash.length s) hv ⟨hvok,ho⟩
      have he:j8 (bM cash.length s) hv=Gx cash cs fun i=>X.getD i 0:=by
       have h1:=Bj (fL cash.length s) X (fun x hx=>by
        obtain⟨i,hi,rfl⟩:=List.mem_map.1 hx;exact hsa.l i (List.mem_range.1 hi)) fun x hx=>(hvx x hx).2
       rw[←hve] at h1
       have h2:j8 (bM cash.length s) hv=true↔uA cash cs fun i=>X.getD i 0:=by
        refine h1.trans ⟨fun h=>?_,fun h=>?_⟩
        ·intro i hi
         rw[hsa.a i hi,←h]
         show some (s i)=some ((fL cash.length s).getD i 0);rw[kq s 0 hi]
        ·refine (Fb hvl fun i hi=>?_).symm
         have h3:=h i hi;rw[hsa.a i hi,Option.some.injEq] at h3;rw[h3]
         show X[i]?=some (X.getD i 0);rw[ahm,ahI (by omega)]
         rfl
       rw[Bool.eq_iff_iff,Au];exact h2
      rw[he] at hF;have hD:=eO (n:=5) ce m51;rw[de] at hD;simp only[go_sem,go_sem_proc,ahG,bG,bO,bY,aF,bA,cO,e2,e8,e10,e53,e54,e55,d1,hF,hD,lk,aie,scalar,ahB]
      repeat' (first|refine qS ?_ ?_|fail)<;>intro h<;>simp only[h,go_sem,go_sem_proc,ahG,bG,bO,bY,aF,bA,cO,e2,e8,e10,e53,e54,e55,d1,hF,hD,lk,aie,scalar,ahB]
   ·rw[ha] at hany
    rw[ahS,ah3];simp only[go_sem,go_sem_proc,ahG,bG,bO,bY,aF,bA,cO,hn0,hc0,hr,hl,hany,ahB,bne,ah6,ahS]
    repeat' (first|refine qS ?_ ?_|fail)<;>intro h<;>simp only[h,go_sem,go_sem_proc,ahG,bG,bO,bY,aF,bA,cO,hn0,hc0,hr,hl,hany,ahB,bne,ah6,ahS]
theorem IX {n:Nat} {f:Nat→Nat} (h:∀ i,n≤i→f i=10):fOf (fL n fun i=>(f i:Int))=f:=by
 funext i
 by_cases hi:i<n
 ·exact OY f hi
 ·unfold fOf
  rw[ahm,List.getElem?_eq_none (by rw[bU];omega),h i (by omega)];rfl
theorem A3 {d:Day} {f:Nat→Nat} {h:Nat→Rat} (h10:∀ i,d.n≤i→f i=10):∀ i,d.n≤i→d.fallen f h i=10:=fun i hi=>by
 unfold Day.fallen;rw[if_neg fun x=>by omega,h10 i hi]
theorem vn (d:Day):∀ k f,(d.rounds k f).1.length≤k
 | 0,f=>ahk _
 | k+1,f=>by
  rw[Day.rounds]
  split
  ·exact ah7 _
  ·have:=vn d k (d.fallen f (d.top f))
   simp only[aic];omega
def nS (l:List Nat):List Data:=[.sl (l.map gU)]
theorem wD (l:List Nat):(nS l).length=1:=rfl
theorem Gc (l:List Nat):((nS l).map MV.dat).all MV.one=true:=rfl
def ph (done:List (List Nat)) (g:Nat):MV:=if done=[] then .nil else .ref 217077 g 1 0 done.length
structure RN (cash:List Int) (cs:List ClR) (g:Nat) (gs:Nat→Nat) (f:Nat→Nat) (done:List (List Nat)) (gF:Nat) (m:Mem):Prop where
 at_:∃ p,(((opA cash cs g gs).wf f).wP p).At m
 out:∃ g7,g7=0∧m 217007=some (g7,[.nil,.nil,ph done gF])
 row:done≠[]→m 217077=some (gF,aC nS done)
 no:∀ k:Nat,k / 1000≠217→k / 1000≠228→m k=none
 f10:∀ i,cash.length≤i→f i=10
 reach:Reach (ab cash (aI cash.length cs)) f
 frs:∃ r,kR cash.length f≤r∧(ab cash (aI cash.length cs)).frs=done++((ab cash (aI cash.length cs)).rounds r f).1∧(ab cash (aI cash.length cs)).fend=((ab cash (aI cash.length cs)).rounds r f).2
theorem Ss (T:Tab) (fC:T i8=mkQ nN) (aF:T be=mkE fx) (aq:T aW=mkE dt) (eG:T cb=mkE oE) {K:bK→St→Prop} {kk:List Todo} (cash:List Int) (cs:List ClR) (hs0:SmallD cash cs) (g:Nat) (gs:Nat→Nat) (v1:MV) (tm:Nat→MV) (m:Mem)
  (e1:tm 1=v1) (e4:tm 4 = .ptr 217004 0 0) (e6:tm 6 = .ref 228023 g 1 0 cash.length) (e7:tm 7 = .ptr 217007 0 0) (m4:m 217004=some (0,[.nil,.nil,.nil])) (hat:RN cash cs g gs (fun _=>10) [] 0 m)
  (hK:∀ tm' m' gF,tm' 1=v1→tm' 4 = .ptr 217004 0 0→tm' 7 = .ptr 217007 0 0→m' 217004=some (0,[.nil,.nil,.nil])→m' 217007=some (0,[.dat (.sl ((bM cash.length (ab cash (aI cash.length cs)).gr).map ad)),.nil,ph (ab cash (aI cash.length cs)).frs gF])→((ab cash (aI cash.length cs)).frs≠[]→m' 217077=some (gF,aC nS (ab cash (aI cash.length cs)).frs))→kont T K kk (.exit 0) ⟨tm',m'⟩) :
  wp T (mf_clear_Solve.body.sub [1,1,1,1,0,0]) (kont T K kk) ⟨tm,m⟩:=by
 simp only[mf_clear_Solve,MCode.sub];have hs:=mV hs0;have hn:=hs.n5;have hd:=hs.ok;refine ae [1,4,6,7] [217004] (fun ((f,done,gF):(Nat→Nat) × List (List Nat) × Nat) tm m=>RN cash cs g gs f done gF m) (fun (f,_)=>kR cash.length f) (fun _=>10,[],0) (by exact hat) ?_;intro vs ms hvs hms;simp only[go_sem,go_sem_proc,ahG,e1,e4,e6,e7,m4] at hvs hms;subst hvs hms;clear e1 e4 e6 e7 m4 hat tm m;rintro⟨f,done,gF⟩ tm m hk m4 hat;simp only[go_sem,go_sem_proc,ahG,List.cons.injEq] at hk m4;obtain⟨e1,e4,e6,e7⟩:=hk;obtain⟨⟨p,hat⟩,⟨g7,rfl,hout⟩,hrow,hno,hf10,hreach,r,hr1,hr2,hr3⟩:=hat;dsimp only at *;have hfo:=IX hf10;have hrc:=hreach;obtain⟨gI,hinv,-⟩:=hreach
 have hQ:=Ct (((opA cash cs g gs).wf f).wP p) m ⟨hat,fun k hk=>hno k (by omega) (by omega),fun k hk=>hno k (by omega) (by omega),fun k hk=>hno k (by omega) (by omega),⟨hs,fun x hx=>by
  obtain⟨i,-,rfl⟩:=List.mem_map.1 hx;have:=hinv.le i;omega⟩,⟨gI,by show Inv (ab cash (aI cash.length cs)) (fOf (fL cash.length fun i=>(f i:Int))) gI;rw[hfo];exact hinv⟩⟩
 have hQ':nN [.ref 228023 g 1 0 cash.length] m=some (xK (((opA cash cs g gs).wf f).wP p) m):=hQ;simp only[go_sem,go_sem_proc,ahG,fC,e1,e4,e6,e7,hQ'];have ht:=Day.top_spec (hd.hex f hrc);have hlim:∀ i,i<cash.length→cr ((ab cash (aI cash.length cs)).top f i):=fun i hi=>du (Ko hs hrc hi) (by omega)
 have h0:∀ i,i<cash.length→0≤(ab cash (aI cash.length cs)).top f i:=fun i hi=>ht.nonneg hd hi
 rintro rr mem' ⟨hrr,p',hat',hout'⟩
 have hrr2:rr = .tup [.dat (.sl ((bM cash.length ((ab cash (aI cash.length cs)).top f)).map ad)),.dat (.bool true)]:=by
  rw[hrr]
  show MV.tup [.dat (.sl ((bM cash.length ((ab cash (aI cash.length cs)).top (fOf (fL cash.length fun i=>(f i:Int))))).map ad)),.dat (.bool true)]=_;rw[hfo]
 clear hrr hQ hQ';subst hrr2;have hO:∀ k:Nat,k / 1000≠228→mem' k=m k:=fun k hk=>hout' k fun i hi=>by have:i<cash.length:=hi;omega
 have q4:=(hO 217004 (by decide)).trans m4;have q7:=(hO 217007 (by decide)).trans hout;have hgr:(ab cash (aI cash.length cs)).falls f=gM (ab cash (aI cash.length cs)) f ((ab cash (aI cash.length cs)).top f) cash.length:=rfl
 have hfin0:(ab cash (aI cash.length cs)).falls f=[]→(ab cash (aI cash.length cs)).frs=done∧(ab cash (aI cash.length cs)).gr=(ab cash (aI cash.length cs)).top f:=fun h=>by
  have:=(ab cash (aI cash.length cs)).rounds_stop h r;rw[this,ahw] at hr2;rw[this] at hr3;exact⟨hr2,by unfold Day.gr;rw[hr3]⟩
 have hnext:(ab cash (aI cash.length cs)).falls f≠[]→kR cash.length ((ab cash (aI cash.length cs)).fallen f ((ab cash (aI cash.length cs)).top f))<kR cash.length f∧Reach (ab cash (aI cash.length cs)) ((ab cash (aI cash.length cs)).fallen f ((ab cash (aI cash.length cs)).top f))∧(∀ i,cash.length≤i→(ab cash (aI cash.length cs)).fallen f ((ab cash (aI cash.length cs)).top f) i=10)∧∃ r,kR cash.length ((ab cash (aI cash.length cs)).fallen f ((ab cash (aI cash.length cs)).top f))≤r∧(ab cash (aI cash.length cs)).frs=(done++[(ab cash (aI cash.length cs)).falls f])++((ab cash (aI cash.length cs)).rounds r ((ab cash (aI cash.length cs)).fallen f ((ab cash (aI cash.length cs)).top f))).1∧(ab cash (aI cash.length cs)).fend=((ab cash (aI cash.length cs)).rounds r ((ab cash (aI cash.length cs)).fallen f ((ab cash (aI cash.length cs)).top f))).2:=fun hne=>by
  have hlt:=ss hd hd.hex hrc hne;have hlt':kR cash.length ((ab cash (aI cash.length cs)).fallen f ((ab cash (aI cash.length cs)).top f))<kR cash.length f:=hlt;refine⟨hlt',hrc.next hd hd.hex,A3 (d:=ab cash (aI cash.length cs)) hf10,?_⟩
  cases r with
  | zero=>omega
  | succ r =>
   rw[Day.rounds,if_neg hne] at hr2 hr3;exact⟨r,by omega,by rw[hr2];simp,hr3⟩
 generalize hd':ab cash (aI cash.length cs)=d at *;generalize hV:(bM cash.length (d.top f)).map ad=V at *;simp only[go_sem,go_sem_proc,ahG,e1,e4,e6,e7,q4,q7,ahS];subst hd';rw[←hV];refine Sa T aF aq eG ((opA cash cs g gs).wP p') hs f (fun i _=>hinv.le i) ((ab cash (aI cash.length cs)).top f) hlim h0 _ v1 (.ptr 217004 0 0) (.ptr 217007 0 0) (cT (mem' 217008)) (cT (mem' 217057)) _ _ ?_ ?_ ?_ ?_ ?_ ?_ ?_ ?_ ?_ (((show ((((opA cash cs g gs).wP p').wf f)).At mem' from hat').up hn (by decide)).up hn (by decide)|>.up hn (by decide)) ?_ ?_ (fun _ _ _ _=>rfl) ?_
 all_goals first | (intro tm2 m2 g2 k1 k4 k6 k7 k8 k10 q57 hat2 hfr2) | (simp only[aR,ahO,if_false,if_true,e1,e4,e6,e7];done) | (simp only[aR,ahO,if_false,if_true];rfl) | (simp only[aR,ahO,if_false,if_true,e1,e4,e6,e7];rfl) | (simp only[ay,ahO,if_false,if_true];done) | (simp only[ay,ahO,if_false,if_true];rfl) | skip
 replace k10:tm2 10 = .ref 217057 g2 1 0 ((ab cash (aI cash.length cs)).falls f).length:=k10;replace q57:m2 217057=some (g2,aC gU ((ab cash (aI cash.length cs)).falls f)):=q57;replace k6:tm2 6 = .ref 228023 g 1 0 cash.length:=k6;replace hat2:(((opA cash cs g gs).wP p').wf ((ab cash (aI cash.length cs)).fallen f ((ab cash (aI cash.length cs)).top f))).At m2:=hat2;have r4:m2 217004=some (0,[.nil,.nil,.nil]):=(hfr2 217004 (by decide) (by decide) (by decide)).trans (by simp only[ay,ahO,if_false];exact q4);have r7:m2 217007=some (0,[.nil,.nil,ph done gF]):=(hfr2 217007 (by decide) (by decide) (by decide)).trans (by simp only[ay,ahO,if_false];exact q7);have r8:m2 217008=some (cT (mem' 217008),[.dat (.sl V)]):=(hfr2 217008 (by decide) (by decide) (by decide)).trans (by simp only[ay,ahO,if_false,if_true];rw[hV]);have r77:done≠[]→m2 217077=some (gF,aC nS done):=fun h=>(hfr2 217077 (by decide) (by decide) (by decide)).trans (by simp only[ay,ahO,if_false];exact (hO 217077 (by decide)).trans (hrow h))
 have rne:∀ (k j:Nat),k / 1000≠217→j / 1000=217→k≠j:=fun k j h1 h2 h=>h1 (h ▸ h2)
 have rno:∀ k:Nat,k / 1000≠217→k / 1000≠228→m2 k=none:=fun k h1 h2=>(hfr2 k h2 (rne k _ h1 (by decide)) (rne k _ h1 (by decide))).trans (by
  rw[aJ (rne k _ h1 (by decide)),aJ (rne k _ h1 (by decide)),aJ (rne k _ h1 (by decide))];exact (hO k h2).trans (hno k h1 h2))
 clear hfr2 hO hat' hout' q4 q7 hout hrow hno m4 e1 e4 e6 e7 hr2 hr3
 by_cases hne:(ab cash (aI cash.length cs)).falls f=[]
 ·obtain⟨h1,h2⟩:=hfin0 hne
  rw[hne] at k10;rw[h1,h2] at hK;have hl0:(((0:Nat):Int)==0)=true:=rfl;simp only[go_sem,go_sem_proc,ahG,k1,k4,k6,k7,k8,k10,r4,r7,r8,hl0,List.length_nil,List.set_cons_zero];refine hK _ _ gF ?_ ?_ ?_ ?_ ?_ fun h=>?_
  ·simp only[aR,ahO,if_false];exact k1
  ·simp only[aR,ahO,if_false];exact k4
  ·simp only[aR,ahO,if_false];exact k7
  ·simp only[ay,ahO,if_false];exact r4
  ·simp only[ay,ahO,if_true];rw[hV]
  ·simp only[ay,ahO,if_false];exact r77 h
 ·obtain⟨h1,h2,h3,h4⟩:=hnext hne
  have hfl5:((ab cash (aI cash.length cs)).falls f).length≤5:=ahC (ahD _ _) (by rw[ahE];exact hn)
  have hl0:((((ab cash (aI cash.length cs)).falls f).length:Int)==0)=false:=by
   have:((ab cash (aI cash.length cs)).falls f).length≠0:=fun h=>hne (List.length_eq_zero_iff.1 h)
   rw[beq_eq_false_iff_ne];omega
  have hfz:=fun (K:St→Prop) (st:St)=>cp (K:=K) (st:=st) io 10 217057 g2 ((ab cash (aI cash.length cs)).falls f)
  have hml:(1≤maxLen)=True:=eq_true (by decide);generalize hfd:(ab cash (aI cash.length cs)).falls f=fl at *;clear hfin0 hnext hK;have hnoF:∀ (M:Mem),(∀ k:Nat,k / 1000≠217→M k=m2 k)→∀ k:Nat,k / 1000≠217→k / 1000≠228→M k=none:=fun M hM k h1 h2=>(hM k h1).trans (rno k h1 h2)
  by_cases hdn:done=[]
  ·subst hdn
   have hfm:ph [] gF = .nil:=rfl;rw[hfm] at r7;simp only[go_sem,go_sem_proc,ahG,k1,k4,k6,k7,k8,k10,r4,r7,r8,q57,hl0,hfz,hml];refine⟨(_,[fl],cT (m2 217077)),h1,⟨⟨p',((hat2.up hn (by decide)).up hn (by decide)).up hn (by decide)⟩,⟨0,rfl,?_⟩,fun _=>?_,?_,h3,h2,h4⟩⟩
   ·rw[cn];rfl
   ·rw[aJ (by decide),cn];rfl
   ·exact hnoF _ fun k hk=>by rw[aJ (rne k _ hk (by decide)),aJ (rne k _ hk (by decide)),aJ (rne k _ hk (by decide))]
  ·have hfm:ph done gF = .ref 217077 gF 1 0 done.length:=by unfold ph;rw[if_neg hdn]
   rw[hfm] at r7;have q77:=r77 hdn
   have hdl:done.length+1≤50:=by
    obtain⟨r',-,h5,-⟩:=h4;have h6:=vn (ab cash (aI cash.length cs)) (10*(ab cash (aI cash.length cs)).n) fun _=>10
    have h7:(ab cash (aI cash.length cs)).frs.length≤10*cash.length:=h6;rw[h5] at h7;simp only[ahq,ahr] at h7;omega
   have hap:=dl wD Gc 217077 gF 24 done fl (cs:=[.dat (.sl (fl.map gU))]) rfl (by omega) (by omega);simp only[go_sem,go_sem_proc,ahG,k1,k4,k6,k7,k8,k10,r4,r7,r8,q57,q77,hl0,hfz,hap];refine⟨(_,done++[fl],gF+1),h1,⟨⟨p',((hat2.up hn (by decide)).up hn (by decide)).up hn (by decide)⟩,⟨0,rfl,?_⟩,fun _=>?_,?_,h3,h2,h4⟩⟩
   ·rw[cn]
    unfold ph;rw[if_neg (by simp),ahq];rfl
   ·rw[aJ (by decide),cn]
   ·exact hnoF _ fun k hk=>by rw[aJ (rne k _ hk (by decide)),aJ (rne k _ hk (by decide)),aJ (rne k _ hk (by decide))]

theorem Alike.gr {d e:Day} (h:Alike d e):d.gr=e.gr:=by unfold Day.gr Day.fend;rw[h.top,h.rounds,h.n]
theorem Alike.frs {d e:Day} (h:Alike d e):d.frs=e.frs:=by unfold Day.frs;rw[h.rounds,h.n]
structure ER (cash:List Int) (cs:List ClR):Prop where
 n:cash.length≤1000000
 c:cs.length≤1000000
 sm:dq cash cs=true→SmallD cash cs
noncomputable def iN (cash:List Int) (cs:List ClR):List aG:=cs.map fun c=>ah (cg cs ((ab cash cs).gr c.1.toNat) c)
noncomputable def iW (cash:List Int) (cs:List ClR):List aG:=bM cash.length (ab cash cs).gr
noncomputable def Ek (cash:List Int) (cs:List ClR):Data:=if dq cash cs=true then .tup [.agg [.sl ((iW cash cs).map ad),.sl ((iN cash cs).map ad),.sl ((ab cash cs).frs.map nS)],.int .i64 0] else .tup [.agg [.sl [],.sl [],.sl []],.int .i64 1]
theorem MX {cash:List Int} {cs:List ClR} (hs:SmallD cash cs):yl cs ((ahl cash.length).map (ab cash cs).gr):=by
 have hr:=(rightD_iff.1 hs.right).2.2.2;have hn:=hs.n5;refine⟨hs.c12,by simp;exact hn,fun c hc=>?_,fun x hx=>?_⟩
 ·have h1:=hr c hc
  have h2:=hs.am c hc;rw[ahB,ahE];omega
 ·obtain⟨i,hi,rfl⟩:=List.mem_map.1 hx
  have hi':=List.mem_range.1 hi;exact⟨kC hs.ok hi',(AW hs hi').mono (by omega)⟩
theorem MY {cash:List Int} {cs:List ClR} (hs:SmallD cash cs):(cs.map fun c=>ah (cg cs (((ahl cash.length).map (ab cash cs).gr).getD c.1.toNat 0) c))=iN cash cs:=ahz fun c hc=>by
 have h1:=(rightD_iff.1 hs.right).2.2.2 c hc;have:((ahl cash.length).map (ab cash cs).gr).getD c.1.toNat 0=(ab cash cs).gr c.1.toNat:=kq (ab cash cs).gr 0 (show c.1.toNat<cash.length by omega);rw[this]
noncomputable def mG:List Data→Option PRes:=FF (α:=(List Int) × (List ClR)) (fun (cash,cs)=>([.sl (cash.map aa),.sl (cs.map clL)]:List Data)) (fun (cash,cs)=>aH (ER cash cs) (.same (Ek cash cs)))
theorem yh:∀ a b:(List Int) × (List ClR),(fun (cash,cs)=>([.sl (cash.map aa),.sl (cs.map clL)]:List Data)) a=(fun (cash,cs)=>([.sl (cash.map aa),.sl (cs.map clL)]:List Data)) b→a=b:=by
  rintro⟨cash1,cs1⟩ ⟨cash2,cs2⟩ h;simp only[List.cons.injEq,Data.sl.injEq,and_true] at h;exact ahR (af aj _ _ h.1) (af fj _ _ h.2)
@[go_sem] theorem oy (cash:List Int) (cs:List ClR) (hc:ER cash cs):mG [.sl (cash.map aa),.sl (cs.map clL)]=some (.same (Ek cash cs)):=(aY yh (cash,cs)).trans (al hc _)
theorem KF (T:Tab) (bG:T gJ=mkE qn) (jK:T lP=mkQ zt) (fC:T i8=mkQ nN) (aF:T be=mkE fx) (aq:T aW=mkE dt) (eG:T cb=mkE oE) (bY:T eU=mkE qq) (cash:List Int) (cs:List ClR) (hc:ER cash cs) :
  wp T mf_clear_Solve.body (bF mf_clear_Solve.res (.same (Ek cash cs))) ⟨ax [.dat (.sl (cash.map aa)),.dat (.sl (cs.map clL))],emp⟩:=by
 refine ap ?_;simp only[mf_clear_Solve];obtain⟨hn0,hc0,hsm⟩:=hc;unfold Ek;rcases hr:dq cash cs
 ·rw[if_neg (by decide)]
  simp only[go_sem,go_sem_proc,ahG,bG,jK,fC,aF,aq,eG,bY,hn0,hc0,hr,ah6]
  repeat' (first|refine qS ?_ ?_|fail)<;>intro h<;>simp only[h,go_sem,go_sem_proc,ahG,bG,jK,fC,aF,aq,eG,bY,hn0,hc0,hr,ah6]
 ·rw[if_pos rfl]
  have hs:=hsm hr;have hn:=hs.n5;have hal:=qa hr
  have hno:NoK 228 (ay emp 217004 0 [MV.nil,MV.nil,MV.nil]):=fun k hk=>by
   rw[aJ (by rintro rfl;omega)];rfl
  have hQ:=Dv cash cs (ay emp 217004 0 [MV.nil,MV.nil,MV.nil]) ⟨hs,hno⟩;simp only[go_sem,go_sem_proc,ahG,bG,jK,fC,aF,aq,eG,bY,hn0,hc0,hr,hQ,ahS];rintro rr m ⟨g,gs,rfl,hat,hfr⟩;dsimp only at hat;have m4:m 217004=some (0,[.nil,.nil,.nil]):=(hfr 217004 (by decide)).trans cn;have m7:m 217007=none:=(hfr 217007 (by decide)).trans (aJ (by decide));simp only[go_sem,go_sem_proc,ahG,bG,jK,fC,aF,aq,eG,bY,m7];refine Ss T fC aF aq eG cash cs hs g gs (.dat (.sl (cs.map clL))) _ _ ?_ ?_ ?_ ?_ ?_ ⟨⟨fun _=>false,?_⟩,⟨0,rfl,?_⟩,fun h=>absurd rfl h,?_,fun _ _=>rfl,Reach.start (mV hs).ok,⟨10*cash.length,?_,rfl,rfl⟩⟩ ?_
  all_goals first | (intro tm2 m2 gF k1 k4 k7 q4 q7 q77) | (simp only[aR,ahO,if_false,if_true];done) | (simp only[aR,ahO,if_false,if_true];rfl) | (simp only[ay,ahO,if_false,if_true];done) | (simp only[ay,ahO,if_false,if_true];rfl) | (simp only[ay,ahO,if_false,if_true];exact m4) | skip
  ·exact hat.up hn (by decide)
  ·intro k h1 h2
   rw[aJ (by rintro rfl;exact h1 (by decide)),hfr k h2,aJ (by rintro rfl;exact h1 (by decide))];rfl
  ·rw[tJ];exact ahk _
  rw[←hal.gr,←hal.frs] at q7;rw[←hal.frs] at q77;have hpy:=ut cs ((ahl cash.length).map (ab cash cs).gr) (MX hs);rw[MY hs] at hpy;replace hpy:qq [.sl (cs.map clL),.sl ((iW cash cs).map ad)]=some (.same (.tup [.sl ((iN cash cs).map ad),.bool true])):=hpy;replace q7:m2 217007=some (0,[.dat (.sl ((iW cash cs).map ad)),.nil,ph (ab cash cs).frs gF]):=q7;generalize iW cash cs=HV at *;generalize iN cash cs=PD at *;generalize (ab cash cs).frs=FR at *;clear hal hQ hat hfr m4 m7
  by_cases hfe:FR=[]
  ·subst hfe
   replace q7:m2 217007=some (0,[.dat (.sl (HV.map ad)),.nil,.nil]):=q7;simp only[go_sem,go_sem_proc,ahG,bG,jK,fC,aF,aq,eG,bY];refine rS ?_;rintro M rfl;simp only[go_sem,go_sem_proc,ahG,bG,jK,fC,aF,aq,eG,bY,k1,k4,k7,q4,q7,hpy,ahS,ahW]
   repeat' (first|refine qS ?_ ?_|fail)<;>intro h<;>simp only[h,go_sem,go_sem_proc,ahG,bG,jK,fC,aF,aq,eG,bY,k1,k4,k7,q4,q7,hpy,ahS,ahW]
  ·have q8:=q77 hfe
   have hfm:ph FR gF = .ref 217077 gF 1 0 FR.length:=by unfold ph;rw[if_neg hfe]
   rw[hfm] at q7;simp only[go_sem,go_sem_proc,ahG,bG,jK,fC,aF,aq,eG,bY];refine rY (MoveS.mfrz 217007 0 _ 2 217077 gF 1 0 FR.length _ (.sl (FR.map nS)) q7 rfl q8 (by decide) (eO (n:=0) wD q8)) ?_;intro M hM;have hM7:M 217007=some (0,[.dat (.sl (HV.map ad)),.nil,.dat (.sl (FR.map nS))]):=by rw[hM,cn];rfl
   have hM4:M 217004=some (0,[.nil,.nil,.nil]):=by
    rw[hM,aJ (by decide)];unfold kill;rw[aJ (by decide)];exact q4
   clear hM;simp only[go_sem,go_sem_proc,ahG,bG,jK,fC,aF,aq,eG,bY,k1,k4,k7,hM4,hM7,hpy,ahS]
   repeat' (first|refine qS ?_ ?_|fail)<;>intro h<;>simp only[h,go_sem,go_sem_proc,ahG,bG,jK,fC,aF,aq,eG,bY,k1,k4,k7,hM4,hM7,hpy,ahS]
theorem xP (cs:List ClR) (w:Int):(bh cs w).length≤cs.length:=by unfold bh;exact ahD _ _
set_option maxHeartbeats 1000000
theorem fewD_iff {cash:List Int} {cs:List ClR}:vR cash cs=true↔cash.length≤5∧cs.length≤12∧(∀ x∈cash,1000000<x→1000000000000000<x)∧∀ c∈cs,1000000<c.2.2.2→1000000000000000<c.2.2.2:=by
 have hf:∀ m:Int,lL m=true↔(1000000<m→1000000000000000<m):=fun m=>by
  unfold lL
  by_cases h1:m>1000000<;>by_cases h2:m≤1000000000000000<;>simp [h1,h2]<;>omega
 unfold vR;simp only[ahZ,aii,decide_eq_false_iff_not,List.all_eq_true,hf]
 constructor
 ·rintro⟨h1,h2,h3,h4⟩
  exact⟨by omega,by omega,h3,h4⟩
 ·rintro⟨h1,h2,h3,h4⟩
  exact⟨by omega,by omega,h3,h4⟩
theorem Oo {cash:List Int} {cs:List ClR} (hf:vR cash cs=true) (hr:dq cash cs=true):(∀ x∈cash,0≤x∧x≤1000000)∧∀ c∈cs,0≤c.2.2.2∧c.2.2.2≤1000000:=by
 obtain⟨-,-,h3,h4⟩:=fewD_iff.1 hf;obtain⟨-,-,h5,h6⟩:=rightD_iff.1 hr;refine⟨fun x hx=>?_,fun c hc=>?_⟩
 ·have:=h3 x hx;have:=h5 x hx;omega
 ·have:=h4 c hc;have:=h6 c hc;omega
theorem wV {cash:List Int} {cs:List ClR} (hf:vR cash cs=true) (hr:dq cash cs=true):SmallD cash cs:=by
 obtain⟨h1,h2,-,-⟩:=fewD_iff.1 hf;exact⟨hr,h1,h2,fun c hc=>by have:=(Oo hf hr).2 c hc;omega⟩
theorem M3 {cash:List Int} {cs:List ClR} (hf:vR cash cs=true):ER cash cs:=by
 obtain⟨h1,h2,-,-⟩:=fewD_iff.1 hf;exact⟨by omega,by omega,wV hf⟩
section
variable {cash:List Int} {cs:List ClR} (hs:SmallD cash cs)
include hs
theorem LO:okL (iW cash cs):=by
 have:=hs.n5;exact ti (by omega) fun i hi=>du (AW hs hi) (by omega)
theorem Hm:(iW cash cs).any (pdF bp)=false∧sY (iW cash cs)=(ahl cash.length).map (ab cash cs).gr:=by
 refine⟨?_,?_⟩
 ·rw[aih]
  intro f hf;obtain⟨y,hy,rfl⟩:=List.mem_map.1 hf;obtain⟨i,hi,rfl⟩:=List.mem_map.1 hy;have hi':i<cash.length:=List.mem_range.1 hi;have hl:=du (AW hs hi') (by omega);have hn:=kC hs.ok hi';rw[rC]
  show ¬ (!bf (ah ((ab cash cs).gr i))||decide ((ah ((ab cash cs).gr i)).1.1<0))=true;rw[mQ hl];have:decide ((ab cash cs).gr i<0)=false:=decide_eq_false (by grind);rw[←pP] at this;have h2:decide ((ah ((ab cash cs).gr i)).1.1<0)=false:=this;rw[h2];decide
 ·unfold sY iW bM
  rw[aid];exact (ahz fun x _=>kJ x).trans (aij _)
theorem H0:Es cash cs (iW cash cs)∧w9 cash cs (iW cash cs)=true:=by
 obtain⟨h1,h2⟩:=Hm hs;have hn:=hs.n5;have h12:=hs.c12;refine⟨⟨by omega,by omega,LO hs,fun _=>hs,fun _ _ _ f hf=>?_⟩,?_⟩
 ·obtain⟨y,hy,rfl⟩:=List.mem_map.1 hf
  obtain⟨i,hi,rfl⟩:=List.mem_map.1 hy;rw[kJ];exact (AW hs (List.mem_range.1 hi)).mono (by omega)
 ·unfold w9
  have hl:(iW cash cs).length=cash.length:=de _ _;rw[hs.right,h1,decide_eq_true hl,aim,aim,ah6,aim,Au,h2];intro i hi;have hx:=L1 hs i hi
  have hcs:pw cash cs (fun i=>((ahl cash.length).map (ab cash cs).gr).getD i 0) i cs=pw cash cs (ab cash cs).gr i cs:=by
   have hr:=(rightD_iff.1 hs.right).2.2.2
   have key:∀ n (l:List ClR),l.length=n→(∀ c∈l,c∈cs)→pw cash cs (fun i=>((ahl cash.length).map (ab cash cs).gr).getD i 0) i l=pw cash cs (ab cash cs).gr i l:=by
    intro n
    induction n with
    | zero=>intro l hl _;rw[List.length_eq_zero_iff.1 hl];rfl
    | succ n ih =>
     intro l hl hm;rcases ahx l with h0 | ⟨m,c,rfl⟩
     ·subst h0;cases hl
     ·rw[ahy] at *
      simp only[ahq,ahr] at hl;have hc:=hr c (hm c (by simp));rw[mL,mL,ih m (by omega) fun y hy=>hm y (by simp [hy])]
      unfold o8;have:((ahl cash.length).map (ab cash cs).gr).getD c.1.toNat 0=(ab cash cs).gr c.1.toNat:=kq (ab cash cs).gr 0 (show c.1.toNat<cash.length by omega);simp only[this]
   exact key _ cs rfl fun c hc=>hc
  rw[hcs,hx]
  show _=some ((fL cash.length (ab cash cs).gr).getD i 0);rw[kq (ab cash cs).gr 0 hi]
end
end Go.Mini
