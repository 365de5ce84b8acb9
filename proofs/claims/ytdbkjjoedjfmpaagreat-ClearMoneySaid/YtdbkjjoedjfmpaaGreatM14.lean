/- A part of the proof. -/
import Derived.Test.YtdbkjjoedjfmpaaGreatM13
import Derived.Test.YtdbkjjoedjfmpaaGreatM12
set_option linter.unusedSimpArgs false
set_option linter.unusedVariables false
open Nat renaming le_refl → ahh, sub_self → ahl, le_trans → ahz, mul_one → ahI, reduceEqDiff → ahL, zero_le → ah4
open List renaming range → ahi, getD_eq_getElem?_getD → ahj, getElem?_append_right → ahk, getElem?_append_left → ahm, length_append → ahn, length_singleton → aho, filter_append → ahp, filter_cons_of_pos → ahq, filter_nil → ahr, filter_cons_of_neg → ahs, append_nil → aht, eq_nil_or_concat → ahu, concat_eq_append → ahv, map_congr_left → ahw, map_append → ahx, length_map → ahy, length_filter_le → ahA, length_range → ahB, take_zero → ahC, getElem?_eq_getElem → ahF, mem_of_getElem? → ahG, take_add_one → ahH, getElem?_map → ahJ, take_of_length_le → ahK, foldl_append → ahQ, mem_map_of_mem → ahS, map_nil → ahT, getElem?_cons_zero → ahZ, getElem?_cons_succ → ah1, take_succ_cons → ah2, drop_succ_cons → ah5, map_cons → ah6, drop_zero → ah7, mapM_cons → ah8, length_cons → ah9, map_map → aia, any_eq_false → aic, map_id → aie, mem_cons_of_mem → aif, mem_cons_self → aig
open Bool renaming false_eq_true → ahD, not_true → ahP, and_eq_true → ahW, and_false → ahY, false_and → ah0, not_false → ah3, not_eq_true' → aid, true_and → aih
open Decidable renaming em → ahE
open Option renaming map_some → ahM, bind_some → ahU, bind_none → aib
open Int renaming toNat_natCast → ahN
open Prod renaming ext → ahO
open Rat renaming add_zero → ahR, intCast_natCast → ahV, intCast_mul → ahX
namespace Go.Mini
open Go
set_option maxRecDepth 10000
set_option maxHeartbeats 4000000
theorem th {kx gx n:Nat} (key:Nat→Nat) (q':Nat→MV) (hkx:∀ i,i<n→key i≠kx) (hkk:∀ i j,i<n→j<n→key i=key j→i=j):∀ r d (q:Nat→MV) (m:Mem),d+r=n→m kx=some (gx,fL n q)→(∀ i,i<d→q i=q' i) →
  (∀ i,d≤i→i<n→q i=q' i∨∃ g sz len cs x,q i = .ref (key i) g sz 0 len∧m (key i)=some (g,cs)∧(∀ m2:Mem,m2 (key i)=some (g,cs)→toD 1 m2 (.ref (key i) g sz 0 len)=some x)∧q' i = .dat x) →
  ∃ m',Moves m m'∧m' kx=some (gx,fL n q')∧∀ k:Nat,k≠kx→(∀ i,i<n→k≠key i)→m' k=m k
 | 0,d,q,m,hd,h1,h2,_=>⟨m,.refl m,by rw[h1,bU fun i hi=>h2 i (by omega)],fun _ _ _=>rfl⟩
 | r+1,d,q,m,hd,h1,h2,h3=>by
  rcases h3 d (ahh _) (by omega) with he | ⟨g,sz,len,cs,x,e1,e2,e3,e4⟩
  ·obtain⟨m',k1,k2,k3⟩:=th key q' hkx hkk r (d+1) q m (by omega) h1 (fun i hi=>by
    by_cases hid:i=d
    ·rw[hid];exact he
    ·exact h2 i (by omega)) fun i hi hin=>h3 i (by omega) hin
   exact⟨m',k1,k2,k3⟩
  ·have hdn:d<n:=by omega
   have hget:(fL n q)[d]?=some (.ref (key d) g sz 0 len):=by rw[cJ q hdn,e1]
   have hstep:=MoveS.mfrz kx gx _ d (key d) g sz 0 len cs x h1 hget e2 (hkx d hdn) (e3 m e2);have hnew:ay (kill m (key d)) kx gx ((fL n q).set d (.dat x)) kx=some (gx,fL n fun j=>if j=d then .dat x else q j):=by rw[bW,mT]
   obtain⟨m',k1,k2,k3⟩:=th key q' hkx hkk r (d+1) (fun j=>if j=d then .dat x else q j) _ (by omega) hnew (fun i hi=>by
    by_cases hid:i=d
    ·rw[if_pos hid,hid,e4]
    ·rw[if_neg hid];exact h2 i (by omega)) fun i hi hin=>by
     rw[if_neg (by omega)];rcases h3 i (by omega) hin with he | ⟨g',sz',len',cs',x',f1,f2,f3,f4⟩
     ·exact .inl he
     ·refine .inr ⟨g',sz',len',cs',x',f1,?_,f3,f4⟩
      rw[aI (hkx i hin)];unfold kill;rw[aI fun hh=>by have:=hkk i d hin hdn hh;omega]
      exact f2
   refine⟨m',.step hstep k1,k2,fun k hk hki=>?_⟩
   rw[k3 k hk hki,aI hk];unfold kill;rw[aI (hki d hdn)]
def plc (l:List ClR) (i:Nat):List Nat:=(ahi l.length).filter fun j=>(l.getD j zC).1==(i:Int)
theorem yA (l:List ClR) (c:ClR) (i:Nat):plc (l++[c]) i=if c.1=(i:Int) then plc l i++[l.length] else plc l i:=by
 unfold plc;have e1:(l++[c]).getD l.length zC=c:=by rw[ahj,ahk (ahh _),ahl];rfl
 have e2:(ahi l.length).filter (fun j=>((l++[c]).getD j zC).1==(i:Int))=(ahi l.length).filter fun j=>(l.getD j zC).1==(i:Int):=List.filter_congr fun j hj=>by
  rw[ahj,ahm (List.mem_range.1 hj),←ahj]
 rw[ahn,aho,List.range_succ,ahp,e2]
 by_cases h:c.1=(i:Int)
 ·rw[if_pos h,ahq (by rw[e1];simpa using h),ahr]
 ·rw[if_neg h,ahs (by rw[e1];simpa using h),ahr,aht]
theorem plc_mem {l:List ClR} {i j:Nat}:j∈plc l i↔j<l.length∧(l.getD j zC).1=(i:Int):=by
 unfold plc;rw[List.mem_filter,List.mem_range,beq_iff_eq]
theorem xV (l:List ClR) (c:ClR) (i:Nat):ba (l++[c]) i=if c.1=(i:Int) then ba l i++[c] else ba l i:=by
 unfold ba;rw[ahp]
 by_cases h:c.1=(i:Int)
 ·rw[if_pos h,ahq (by simpa using h),ahr]
 ·rw[if_neg h,ahs (by simpa using h),ahr,aht]
theorem Fg (l:List ClR) (i:Nat):ba l i=(plc l i).map fun j=>l.getD j zC:=by
 have:∀ n (l:List ClR),l.length=n→ba l i=(plc l i).map fun j=>l.getD j zC:=by
  intro n
  induction n with
  | zero =>
   intro l hl;have:l=[]:=List.length_eq_zero_iff.1 hl;subst this;rfl
  | succ n ih =>
   intro l hl;rcases ahu l with h0 | ⟨l',c,rfl⟩
   ·subst h0;cases hl
   ·rw[ahv] at *
    simp only[ahn,aho] at hl;have e1:(l'++[c]).getD l'.length zC=c:=by rw[ahj,ahk (ahh _),ahl];rfl
    have e2:(plc l' i).map (fun j=>(l'++[c]).getD j zC)=(plc l' i).map fun j=>l'.getD j zC:=ahw fun j hj=>by
     rw[ahj,ahm (plc_mem.1 hj).1,←ahj]
    rw[xV,yA]
    by_cases h:c.1=(i:Int)
    ·rw[if_pos h,if_pos h,ahx,e2,ih l' (by omega)]
     show _=_++[(l'++[c]).getD l'.length zC];rw[e1]
    ·rw[if_neg h,if_neg h,e2,ih l' (by omega)]
 exact this _ l rfl
theorem tq (l:List ClR) (i:Nat):(plc l i).length=(ba l i).length:=by rw[Fg,ahy]
theorem Ol (l:List ClR) (i:Nat):(plc l i).length≤l.length:=by
 unfold plc;exact ahz (ahA _ _) (by rw[ahB];exact ahh _)
def pc (l:List ClR) (gc:Nat→Nat) (i:Nat):MV:=if ba l i=[] then .nil else .ref (233600+i) (gc i) 4 0 (ba l i).length
def pp (l:List ClR) (gp:Nat→Nat) (i:Nat):MV:=if ba l i=[] then .nil else .ref (233700+i) (gp i) 1 0 (ba l i).length
structure PyAt (n:Nat) (l:List ClR) (gc gp:Nat→Nat) (m:Mem):Prop where
 r1:m 233019=some (0,fL n (pc l gc))
 r2:m 233022=some (0,fL n (pp l gp))
 k1:∀ i,i<n→ba l i≠[]→m (233600+i)=some (gc i,aC clL (ba l i))
 k2:∀ i,i<n→ba l i≠[]→m (233700+i)=some (gp i,aC gH (plc l i))
theorem PyAt.next {n:Nat} {l:List ClR} {gc gp:Nat→Nat} {m m':Mem} (h:PyAt n l gc gp m) (hn:n≤5) {c1:Nat} {c2 c3 c4:Int} (g1 g2:Nat)
  (h1:m' 233019=some (0,fL n fun i=>if i=c1 then .ref (233600+c1) g1 4 0 ((ba l c1).length+1) else pc l gc i)) (h2:m' 233022=some (0,fL n fun i=>if i=c1 then .ref (233700+c1) g2 1 0 ((ba l c1).length+1) else pp l gp i))
  (h3:m' (233600+c1)=some (g1,aC clL (ba l c1++[((c1:Int),c2,c3,c4)]))) (h4:m' (233700+c1)=some (g2,aC gH (plc l c1++[l.length])))
  (ho:∀ i,i<n→i≠c1→m' (233600+i)=m (233600+i)∧m' (233700+i)=m (233700+i)):PyAt n (l++[((c1:Int),c2,c3,c4)]) (fun i=>if i=c1 then g1 else gc i) (fun i=>if i=c1 then g2 else gp i) m':=by
 have eo:∀ i:Nat,i≠c1→ba (l++[((c1:Int),c2,c3,c4)]) i=ba l i:=fun i hi=>by rw[xV,if_neg (by show ¬ ((c1:Int)=(i:Int));omega)]
 have ep:∀ i:Nat,i≠c1→plc (l++[((c1:Int),c2,c3,c4)]) i=plc l i:=fun i hi=>by rw[yA,if_neg (by show ¬ ((c1:Int)=(i:Int));omega)]
 have so:ba (l++[((c1:Int),c2,c3,c4)]) c1=ba l c1++[((c1:Int),c2,c3,c4)]:=by rw[xV,if_pos rfl]
 have sp:plc (l++[((c1:Int),c2,c3,c4)]) c1=plc l c1++[l.length]:=by rw[yA,if_pos rfl]
 refine⟨?_,?_,fun i hi hne=>?_,fun i hi hne=>?_⟩
 ·rw[h1]
  congr 2
  refine bU fun i hi=>?_
  unfold pc
  by_cases hc:i=c1
  ·subst hc
   rw[so,if_pos rfl,if_neg (by simp),ahn];dsimp only;rw[if_pos rfl];rfl
  ·rw[eo i hc,if_neg hc]
   dsimp only;rw[if_neg hc]
 ·rw[h2]
  congr 2
  refine bU fun i hi=>?_
  unfold pp
  by_cases hc:i=c1
  ·subst hc
   rw[so,if_pos rfl,if_neg (by simp),ahn];dsimp only;rw[if_pos rfl];rfl
  ·rw[eo i hc,if_neg hc]
   dsimp only;rw[if_neg hc]
 ·by_cases hc:i=c1
  ·subst hc
   rw[if_pos rfl,so];exact h3
  ·rw[eo i hc] at hne ⊢
   rw[if_neg hc,(ho i hi hc).1];exact h.k1 i hi hne
 ·by_cases hc:i=c1
  ·subst hc
   rw[if_pos rfl,sp];exact h4
  ·rw[eo i hc] at hne
   rw[ep i hc,if_neg hc,(ho i hi hc).2];exact h.k2 i hi hne
structure xz (cs:List ClR) (h:List Rat):Prop where
 len:cs.length≤12
 n:h.length≤5
 c:∀ c∈cs,0≤c.1∧c.1<h.length ∧ -1≤c.2.1∧c.2.1<60∧0≤c.2.2.1∧c.2.2.1<10∧0≤c.2.2.2∧c.2.2.2≤33554432
 x:∀ x∈h,0≤x∧szR 460 x
theorem D5 {K:St→Prop} {tm:Nat→MV} {mem mem1 mem':Mem} (h:MoveS mem mem1) (h2:MoveS mem1 mem') (hK:∀ M,M=mem'→K ⟨tm,M⟩):dL K ⟨tm,mem⟩ .many:=⟨mem',.step h (.step h2 (.refl _)),hK _ rfl⟩
theorem Q8 (T:Tab) {K:bD→St→Prop} {kk:List Todo} (cs:List ClR) (h:List Rat) (hp:xz cs h) (v1:MV) (tm:Nat→MV) (m:Mem)
  (e0:tm 0 = .dat (.sl (cs.map clL))) (e1:tm 1=v1) (e6:tm 6 = .ref 233019 0 1 0 h.length) (e7:tm 7 = .ref 233022 0 1 0 h.length) (e23:tm 23 = .dat (.sl (cs.map clL))) (e24:tm 24 = .dat (.int .i64 cs.length)) (e25:tm 25 = .dat (.int .i64 0)) (m57:m 233057=none) (gc gp:Nat→Nat) (hat:PyAt h.length [] gc gp m)
  (hK:∀ tm' m' gc' gp',tm' 0 = .dat (.sl (cs.map clL))→tm' 1=v1→tm' 6 = .ref 233019 0 1 0 h.length→tm' 7 = .ref 233022 0 1 0 h.length→m' 233057=none→PyAt h.length cs gc' gp' m'→kont T K kk (.exit 0) ⟨tm',m'⟩) :
  wp T (mf_clear_payments.body.sub [1,1,1,0,1,0]) (kont T K kk) ⟨tm,m⟩:=by
 simp only[mf_clear_payments,MCode.sub];have hn:=hp.n;have h12:=hp.len;refine ae [0,1,6,7,23,24] [233057] (fun ((t,gc,gp):Nat × (Nat→Nat) × (Nat→Nat)) tm m=>t≤cs.length∧tm 25 = .dat (.int .i64 t)∧PyAt h.length (cs.take t) gc gp m) (fun (t,_)=>cs.length-t) (0,gc,gp) (by refine⟨by omega,e25,by rw[ahC];exact hat⟩) ?_
 intro vs ms hvs hms;simp only[go_sem,go_sem_proc,ahD,e0,e1,e6,e7,e23,e24,m57] at hvs hms;subst hvs hms;clear e0 e1 e6 e7 e23 e24 e25 m57 hat tm m;rintro⟨t,gc,gp⟩ tm m hk m57 ⟨ht,e25,hat⟩;simp only[go_sem,go_sem_proc,ahD,List.cons.injEq] at hk m57;obtain⟨e0,e1,e6,e7,e23,e24⟩:=hk;rcases ahE (t<cs.length) with hlt | hge
 ·have d1:decide ((t:Int)<(cs.length:Int))=true:=decide_eq_true (by omega)
  have w3:IntKind.i64.wrap ((t:Int)+1)=((t+1:Nat):Int):=by rw[an _ (by omega) (by omega)];omega
  obtain⟨⟨c1,c2,c3,c4⟩,hx⟩:∃ c,cs[t]?=some c:=⟨_,ahF hlt⟩;have hrc:=hp.c _ (ahG hx);dsimp only at hrc;obtain⟨c1,rfl⟩:∃ k:Nat,c1=(k:Int):=⟨c1.toNat,by omega⟩
  have htk:cs.take (t+1)=cs.take t++[((c1:Int),c2,c3,c4)]:=by rw[ahH,hx];rfl
  have htl:(cs.take t).length=t:=by rw[List.length_take];omega
  generalize hl:cs.take t=l at *;have hc1:c1<h.length:=by omega
  have r1:=hat.r1;have r2:=hat.r2;have g1:=nu (cJ (pc l gc) hc1);have g2:=nu (cJ (pp l gp) hc1);have n1:(fL h.length (pc l gc)).length=h.length:=bK _ _;have n2:(fL h.length (pp l gp)).length=h.length:=bK _ _;have s1:=fun v=>(ls (l:=fL h.length (pc l gc)) (k:=c1) (v:=v) (by rw[bK];exact hc1)).trans (mT (pc l gc) v)
  have s2:=fun v=>(ls (l:=fL h.length (pp l gp)) (k:=c1) (v:=v) (by rw[bK];exact hc1)).trans (mT (pp l gp) v)
  have l1:c1+1≤h.length:=by omega
  have hml:(1≤maxLen)=True:=eq_true (by decide);have hol:(ba l c1).length≤12:=ahz (ahA _ _) (by omega);have hpl:=tq l c1;have E1:∀ i,i<h.length→233600+i≠233009∧233600+i≠233019∧233600+i≠233022∧233600+i≠233043∧233600+i≠233051∧233600+i≠233700+c1∧233600+i≠233057:=fun i hi=>by omega
  have E2:∀ i,i<h.length→233700+i≠233009∧233700+i≠233019∧233700+i≠233022∧233700+i≠233043∧233700+i≠233051∧233700+i≠233600+c1∧233700+i≠233057:=fun i hi=>by omega
  by_cases hce:ba l c1=[]
  ·have c1m:pc l gc c1 = .nil:=by unfold pc;rw[if_pos hce]
   have c2m:pp l gp c1 = .nil:=by unfold pp;rw[if_pos hce]
   have hpe:plc l c1=[]:=List.length_eq_zero_iff.1 (by rw[hpl,hce];rfl);rw[c1m] at g1;rw[c2m] at g2;simp only[go_sem,go_sem_proc,ahD,hml,e0,e1,e6,e7,e23,e24,e25,hx,r1,r2,g1,g2,n1,n2,s1,s2,d1,l1,hc1,clL,ahI,ahy,ahJ];obtain⟨f11,f12,f13,f14,f15,f16,f17⟩:=E1 c1 hc1;obtain⟨f21,f22,f23,f24,f25,f26,f27⟩:=E2 c1 hc1
   refine D5 (MoveS.mref 233019 0 _ c1 233043 (cD (m 233043)) 4 0 1 _ (233600+c1) ((aI (by decide)).trans bW) ((cJ _ hc1).trans (by rw[if_pos rfl])) ((aI (by decide)).trans ((aI (by decide)).trans ((aI (by decide)).trans bW))) (by decide) f14 f12)
    (MoveS.mref 233022 0 _ c1 233051 (cD (m 233051)) 1 0 1 _ (233700+c1) ((aI (by decide)).trans ((aI (Ne.symm f13)).trans ((aI (by decide)).trans bW))) ((cJ _ hc1).trans (by rw[if_pos rfl])) ((aI (by decide)).trans ((aI (Ne.symm f15)).trans ((aI (by decide)).trans ((aI (by decide)).trans ((aI (by decide)).trans bW))))) (by decide) f25 f23) ?_
   intro M2 hM2
   have hMo:∀ k:Nat,k≠233009→k≠233019→k≠233022→k≠233043→k≠233051→k≠233600+c1→k≠233700+c1→M2 k=m k:=fun k h9 h19 h22 h43 h51 h36 h37=>by
    rw[hM2,aI h22,aI h37,aI h51,aI h19,aI h36,aI h43,aI h22,aI h19,aI h51,aI h43,aI h9,aI h9]
   obtain⟨ga,hA1,hA2⟩:∃ ga,M2 233019=some (0,fL h.length fun i=>if i=c1 then .ref (233600+c1) ga 4 0 ((ba l c1).length+1) else pc l gc i)∧M2 (233600+c1)=some (ga,aC clL (ba l c1++[((c1:Int),c2,c3,c4)])):=by
    rw[hce];apply Exists.intro;apply And.intro
    rotate_left
    ·rw[hM2,aI f13,aI f16,aI f15,aI f12,bW];rfl
    ·rw[hM2,aI (by decide),aI (Ne.symm f22),aI (by decide),bW,mT]
     congr 2
     refine bU fun i _=>?_
     by_cases hi:i=c1
     ·rw[if_pos hi,if_pos hi];rfl
     ·rw[if_neg hi,if_neg hi,if_neg hi]
   obtain⟨gb,hB1,hB2⟩:∃ gb,M2 233022=some (0,fL h.length fun i=>if i=c1 then .ref (233700+c1) gb 1 0 ((ba l c1).length+1) else pp l gp i)∧M2 (233700+c1)=some (gb,aC gH (plc l c1++[l.length])):=by
    rw[hce,hpe,htl];apply Exists.intro;apply And.intro
    rotate_left
    ·rw[hM2,aI f23,bW];rfl
    ·rw[hM2,bW,mT]
     congr 2
     refine bU fun i _=>?_
     by_cases hi:i=c1
     ·rw[if_pos hi,if_pos hi];rfl
     ·rw[if_neg hi,if_neg hi,if_neg hi]
   have hfin:=hat.next (m':=M2) hn ga gb hA1 hB1 hA2 hB2 fun i hi hne=>⟨by
    obtain⟨a1,a2,a3,a4,a5,a6,-⟩:=E1 i hi;exact hMo _ a1 a2 a3 a4 a5 (by omega) a6,by
    obtain⟨a1,a2,a3,a4,a5,a6,-⟩:=E2 i hi;exact hMo _ a1 a2 a3 a4 a5 a6 (by omega)⟩
   have hM57:M2 233057=none:=(hMo 233057 (by decide) (by decide) (by decide) (by decide) (by decide) (Ne.symm f17) (Ne.symm f27)).trans m57;clear hM2 hMo hA1 hA2 hB1 hB2;refine qI ?_
   repeat' (intro h<;>simp only[h,go_sem,go_sem_proc,ahD,e0,e1,e6,e7,e23,e24,e25,w3,hM57]<;>try refine qS ?_ ?_)
   exact⟨(t+1,_,_),by dsimp only;omega,by dsimp only;omega,rfl,by rw[htk];exact hfin⟩
  ·have c1m:pc l gc c1 = .ref (233600+c1) (gc c1) 4 0 (ba l c1).length:=by unfold pc;rw[if_neg hce]
   have c2m:pp l gp c1 = .ref (233700+c1) (gp c1) 1 0 (plc l c1).length:=by unfold pp;rw[if_neg hce,hpl]
   rw[c1m] at g1;rw[c2m] at g2;have k1:=hat.k1 c1 hc1 hce;have k2:=hat.k2 c1 hc1 hce;have ha1:=cZ li tc (233600+c1) (gc c1) 32 (ba l c1) ((c1:Int),c2,c3,c4) (cs:=[.dat (.int .i64 c1),.dat (.int .i64 c2),.dat (.int .i64 c3),.dat (.int .i64 c4)]) rfl (by omega) (by omega);have ha2:=cZ gZ B5 (233700+c1) (gp c1) 8 (plc l c1) l.length (cs:=[.dat (.int .i64 t)]) (by rw[htl];rfl) (by omega) (by omega)
   obtain⟨f11,f12,f13,f14,f15,f16,f17⟩:=E1 c1 hc1;obtain⟨f21,f22,f23,f24,f25,f26,f27⟩:=E2 c1 hc1;have hKa:(233600+c1)=233600+c1:=rfl;generalize hA:233600+c1=A at *;generalize hB:233700+c1=B at *;have hAB:A≠B:=f16;have q1:(A==233009)=false:=beq_eq_false_iff_ne.2 f11;have q1':(233009==A)=false:=beq_eq_false_iff_ne.2 (Ne.symm f11);have q2:(A==233019)=false:=beq_eq_false_iff_ne.2 f12;have q2':(233019==A)=false:=beq_eq_false_iff_ne.2 (Ne.symm f12);have q3:(A==233022)=false:=beq_eq_false_iff_ne.2 f13;have q3':(233022==A)=false:=beq_eq_false_iff_ne.2 (Ne.symm f13);have q4:(A==233043)=false:=beq_eq_false_iff_ne.2 f14;have q4':(233043==A)=false:=beq_eq_false_iff_ne.2 (Ne.symm f14);have q5:(A==233051)=false:=beq_eq_false_iff_ne.2 f15;have q5':(233051==A)=false:=beq_eq_false_iff_ne.2 (Ne.symm f15);have q6:(A==B)=false:=beq_eq_false_iff_ne.2 hAB;have q6':(B==A)=false:=beq_eq_false_iff_ne.2 (Ne.symm hAB);have p1:(B==233009)=false:=beq_eq_false_iff_ne.2 f21;have p1':(233009==B)=false:=beq_eq_false_iff_ne.2 (Ne.symm f21);have p2:(B==233019)=false:=beq_eq_false_iff_ne.2 f22;have p2':(233019==B)=false:=beq_eq_false_iff_ne.2 (Ne.symm f22);have p3:(B==233022)=false:=beq_eq_false_iff_ne.2 f23;have p3':(233022==B)=false:=beq_eq_false_iff_ne.2 (Ne.symm f23);have p4:(B==233043)=false:=beq_eq_false_iff_ne.2 f24;have p4':(233043==B)=false:=beq_eq_false_iff_ne.2 (Ne.symm f24);have p5:(B==233051)=false:=beq_eq_false_iff_ne.2 f25;have p5':(233051==B)=false:=beq_eq_false_iff_ne.2 (Ne.symm f25);have x1:(A=233009)=False:=eq_false f11;have x2:(B=233009)=False:=eq_false f21;have x3:(B=A)=False:=eq_false (Ne.symm hAB);have x4:(233019=A)=False:=eq_false (Ne.symm f12);have x5:(233019=B)=False:=eq_false (Ne.symm f22);have x6:(233022=A)=False:=eq_false (Ne.symm f13);have x7:(233022=B)=False:=eq_false (Ne.symm f23);have x8:(233009=A)=False:=eq_false (Ne.symm f11);have x9:(233009=B)=False:=eq_false (Ne.symm f21);have x10:(A=B)=False:=eq_false hAB;simp only[go_sem,go_sem_proc,ahD,hml,e0,e1,e6,e7,e23,e24,e25,hx,r1,r2,g1,g2,n1,n2,s1,s2,d1,l1,hc1,k1,k2,ha1,ha2,q1,q1',q2,q2',q3,q3',q4,q4',q5,q5',q6,q6',p1,p1',p2,p2',p3,p3',p4,p4',p5,p5',x1,x2,x3,x4,x5,x6,x7,x8,x9,x10,clL,ahI,ahy,ahJ];refine sa ?_;intro M2 hM2
   have hMo:∀ k:Nat,k≠233009→k≠233019→k≠233022→k≠A→k≠B→M2 k=m k:=fun k h9 h19 h22 hA hB=>by
    rw[hM2,aI h22,aI h19,aI hB,aI hA,aI h9,aI h9]
   have hA1:M2 233019=some (0,fL h.length fun i=>if i=c1 then .ref A (gc c1+1) 4 0 ((ba l c1).length+1) else pc l gc i):=by
    rw[hM2,aI (by decide),bW]
   have hA2:M2 A=some (gc c1+1,aC clL (ba l c1++[((c1:Int),c2,c3,c4)])):=by
    rw[hM2,aI f13,aI f12,aI hAB,bW]
   have hB1:M2 233022=some (0,fL h.length fun i=>if i=c1 then .ref B (gp c1+1) 1 0 ((ba l c1).length+1) else pp l gp i):=by
    rw[hM2,bW,hpl]
   have hB2:M2 B=some (gp c1+1,aC gH (plc l c1++[l.length])):=by
    rw[hM2,aI f23,aI f22,bW]
   have hfin:=hat.next (m':=M2) hn (c2:=c2) (c3:=c3) (c4:=c4) (gc c1+1) (gp c1+1) (by rw[hA];exact hA1) (by rw[hB];exact hB1) (by rw[hA];exact hA2) (by rw[hB];exact hB2) fun i hi hne=>⟨by
    obtain⟨a1,a2,a3,a4,a5,a6,-⟩:=E1 i hi;exact hMo _ a1 a2 a3 (by omega) a6,by
    obtain⟨a1,a2,a3,a4,a5,a6,-⟩:=E2 i hi;exact hMo _ a1 a2 a3 a6 (by omega)⟩
   have hM57:M2 233057=none:=(hMo 233057 (by decide) (by decide) (by decide) (Ne.symm f17) (Ne.symm f27)).trans m57;clear hM2 hMo hA1 hA2 hB1 hB2;refine qI ?_
   repeat' (intro h<;>simp only[h,go_sem,go_sem_proc,ahD,e0,e1,e6,e7,e23,e24,e25,w3,hM57]<;>try refine qS ?_ ?_)
   exact⟨(t+1,_,_),by dsimp only;omega,by dsimp only;omega,rfl,by rw[htk];exact hfin⟩
 ·have d1:decide ((t:Int)<(cs.length:Int))=false:=decide_eq_false (by omega)
  rw[ahK (by omega)] at hat;refine qI ?_
  repeat' (intro h<;>simp only[h,go_sem,go_sem_proc,ahD,e0,e1,e6,e7,e23,e24,e25,d1]<;>try refine qS ?_ ?_)
  refine hK _ _ gc gp ?_ ?_ ?_ ?_ m57 hat<;>simp only[aO,ahL,if_false,e0,e1,e6,e7]
def plM (l:List Nat):MV:=if l=[] then .nil else .dat (.sl (l.map gH))
theorem Mt (l:List Nat):oW (plM l)=some l.length:=by
 unfold plM
 split
 ·rename_i h;rw[h];rfl
 ·simp [oW]
theorem NI {l:List Nat} {n y:Nat} (h:l[n]?=some y):xF 1 n (plM l)=some (.dat (.ptr (gH y))):=by
 unfold plM
 split
 ·rename_i hl;rw[hl] at h;cases h
 ·simp only[xF,ahJ,h,ahM]
  rfl
theorem M5 (l:List ClR) (n:Nat) (m:Mem):toD n m (clM l)=some (.sl (l.map clL)):=by
 unfold clM
 split
 ·rename_i h;rw[h];exact LK n
 ·exact te n _
noncomputable def pyE (cs:List ClR) (h:List Rat) (j:Nat):aE:=ah (bQ cs (h.getD (cs.getD j zC).1.toNat 0) (cs.getD j zC))
noncomputable def pyQ (cs:List ClR) (h:List Rat) (i t j:Nat):Option aE:=if (cs.getD j zC).1<(i:Int)∨((cs.getD j zC).1=(i:Int)∧j∈(plc cs i).take t) then some (pyE cs h j) else none
theorem MB (cs:List ClR) (h:List Rat) (i:Nat):(fL cs.length fun j=>pyQ cs h i (plc cs i).length j)=fL cs.length fun j=>pyQ cs h (i+1) 0 j:=bU fun j hj=>by
 unfold pyQ;rw[List.take_length,ahC];have hm:=plc_mem (l:=cs) (i:=i) (j:=j)
 by_cases h1:(cs.getD j zC).1<(i:Int)
 ·rw[if_pos (.inl h1),if_pos (.inl (by omega))]
 ·by_cases h2:(cs.getD j zC).1=(i:Int)
  ·rw[if_pos (.inr ⟨h2,hm.2 ⟨hj,h2⟩⟩),if_pos (.inl (by omega))]
  ·rw[if_neg (fun hh=>hh.elim h1 fun x=>h2 x.1),if_neg (fun hh=>hh.elim (by omega) fun x=>by simpa using x.2)]
theorem Ky (cs:List ClR) (h:List Rat) (hp:xz cs h):(fL cs.length fun j=>pyQ cs h 0 0 j)=fL cs.length fun _=>none:=bU fun j hj=>by
 have:=(hp.c _ (ahG (ahF hj))).1;have e:cs.getD j zC=cs[j]:=by rw[ahj,ahF hj];rfl;unfold pyQ;rw[e,ahC,if_neg (fun hh=>hh.elim (by omega) fun x=>by simpa using x.2)]
theorem PP (cs:List ClR) (h:List Rat) (hp:xz cs h):(fL cs.length fun j=>pyQ cs h h.length 0 j)=(cs.map fun c=>ah (bQ cs (h.getD c.1.toNat 0) c)).map some:=by
 refine (EM (by simp) fun j hj=>?_).symm;have:=(hp.c _ (ahG (ahF hj))).2.1;have e:cs.getD j zC=cs[j]:=by rw[ahj,ahF hj];rfl;unfold pyQ;rw[ahJ,ahJ,ahF hj,e,if_pos (.inl this)];unfold pyE;rw[e];rfl
theorem RX (T:Tab) {K:bD→St→Prop} {kk:List Todo} (cs:List ClR) (h:List Rat) (hp:xz cs h) (i:Nat) (hi:i<h.length) (v1 v7 v58 v59 v60:MV) (x19 x22:Option (Nat × List MV)) (tm:Nat→MV) (m:Mem)
  (e1:tm 1=v1) (e7:tm 7=v7) (e10:tm 10 = .ref 233057 0 4 0 cs.length) (e13:tm 13 = .dat (.sl (((ba cs i).map fun c=>ah (bQ cs (h.getD i 0) c)).map ad))) (e58:tm 58=v58) (e59:tm 59=v59) (e60:tm 60=v60) (e79:tm 79=plM (plc cs i)) (e80:tm 80 = .dat (.int .i64 (plc cs i).length)) (e81:tm 81 = .dat (.int .i64 0)) (m19:m 233019=x19) (m22:m 233022=x22) (m57:m 233057=some (0,kd oZ (fL cs.length fun j=>pyQ cs h i 0 j)))
  (hK:∀ tm' m',tm' 1=v1→tm' 7=v7→tm' 10 = .ref 233057 0 4 0 cs.length→tm' 58=v58→tm' 59=v59→tm' 60=v60→m' 233019=x19→m' 233022=x22→m' 233057=some (0,kd oZ (fL cs.length fun j=>pyQ cs h (i+1) 0 j))→kont T K kk (.exit 4) ⟨tm',m'⟩) :
  wp T (mf_clear_payments.body.sub [1,1,1,1,1,0,1,0,0,1,1,0,0,1,1,1,1,0]) (kont T K kk) ⟨tm,m⟩:=by
 simp only[mf_clear_payments,MCode.sub];have h12:=hp.len;have hpl:=Ol cs i;refine ae [1,7,10,13,58,59,60,79,80] [233019,233022] (fun (k:Nat) tm m=>k≤(plc cs i).length∧tm 81 = .dat (.int .i64 k)∧m 233057=some (0,kd oZ (fL cs.length fun j=>pyQ cs h i k j))) (fun k=>(plc cs i).length-k) 0 (by refine⟨by omega,e81,m57⟩) ?_;intro vs ms hvs hms;simp only[go_sem,go_sem_proc,ahD,e1,e7,e10,e13,e58,e59,e60,e79,e80,m19,m22] at hvs hms;subst hvs hms;clear e1 e7 e10 e13 e58 e59 e60 e79 e80 e81 m19 m22 m57 tm m;rintro k tm m hk hm ⟨hkl,e81,m57⟩;simp only[go_sem,go_sem_proc,ahD,List.cons.injEq] at hk hm;obtain⟨e1,e7,e10,e13,e58,e59,e60,e79,e80⟩:=hk;obtain⟨m19,m22⟩:=hm;rcases ahE (k<(plc cs i).length) with hlt | hge
 ·have d1:decide ((k:Int)<((plc cs i).length:Int))=true:=decide_eq_true (by omega)
  have w3:IntKind.i64.wrap ((k:Int)+1)=((k+1:Nat):Int):=by rw[an _ (by omega) (by omega)];omega
  obtain⟨y,hy⟩:∃ y,(plc cs i)[k]?=some y:=⟨_,ahF hlt⟩;obtain⟨hyl,hyi⟩:=plc_mem.1 (ahG hy);have hia:=NI hy;simp only[go_sem,go_sem_proc,ahD,ahI] at hia
  have hog:((ba cs i).map fun c=>ah (bQ cs (h.getD i 0) c))[k]?=some (pyE cs h y):=by
   rw[Fg,ahJ,ahJ,hy];unfold pyE;rw[hyi,ahN];rfl
  have hlen4:=DW (q:=fun j=>pyQ cs h i k j) hyl;have hset:=fun a b c d=>DM (q:=fun j=>pyQ cs h i k j) hyl a b c d
  have hnx:∀ F:aE,F=pyE cs h y→(fL cs.length fun j=>if j=y then some F else pyQ cs h i k j)=fL cs.length fun j=>pyQ cs h i (k+1) j:=fun F hF=>bU fun j _=>by
   have htk:(plc cs i).take (k+1)=(plc cs i).take k++[y]:=by rw[ahH,hy];rfl
   by_cases hj:j=y
   ·subst hj
    rw[if_pos rfl];unfold pyQ;rw[htk,if_pos (.inr ⟨hyi,by simp⟩),hF]
   ·rw[if_neg hj]
    unfold pyQ;rw[htk]
    by_cases h1:(cs.getD j zC).1<(i:Int)∨((cs.getD j zC).1=(i:Int)∧j∈(plc cs i).take k)
    ·rw[if_pos h1,if_pos (h1.imp id fun x=>⟨x.1,by simp [x.2]⟩)]
    ·rw[if_neg h1,if_neg fun hh=>h1 (hh.imp id fun x=>⟨x.1,by simpa [hj] using x.2⟩)]
  have hn:=hnx _ rfl;clear hK;generalize ((ba cs i).map fun c=>ah (bQ cs (h.getD i 0) c))=PD at *;generalize pyE cs h y=F at *;obtain⟨⟨a1,a2⟩,⟨a3,a4⟩⟩:=F;have hst:=hset a1 a2 a3 a4;rw[hn] at hst;refine qI ?_
  repeat' (intro h<;>simp only[h,go_sem,go_sem_proc,ahD,e1,e7,e10,e13,e58,e59,e60,e79,e80,e81,m19,m22,m57,d1,w3,hia,hog,hlen4,hst,hyl,gH,ad,ahI,ahy,ahJ]<;>try refine qS ?_ ?_)
  exact⟨k+1,by omega,by omega,rfl,rfl⟩
 ·have d1:decide ((k:Int)<((plc cs i).length:Int))=false:=decide_eq_false (by omega)
  obtain rfl:k=(plc cs i).length:=by omega
  rw[MB] at m57;refine qI ?_
  repeat' (intro h<;>simp only[h,go_sem,go_sem_proc,ahD,e1,e7,e10,e13,e58,e59,e60,e79,e80,e81,d1]<;>try refine qS ?_ ?_)
  refine hK _ _ ?_ ?_ ?_ ?_ ?_ ?_ m19 m22 m57<;>simp only[aO,ahL,if_false,e1,e7,e10,e58,e59,e60]
theorem nrow (n:Nat):(List.replicate n [MV.nil]).flatten=fL n fun _ => .nil:=by
 induction n with
 | zero=>rfl
 | succ n ih=>rw[List.replicate_succ',List.flatten_append,ih,EW];rfl
theorem It {a b:List Rat} (h:(a.map ah).map ad=(b.map ah).map ad):a=b:=af (fun _ _ h=>vz h) _ _ (af cG _ _ h)
noncomputable def rz:List Data→Option PRes:=FF (α:=(List ClR) × (List Rat)) (fun (cs,h)=>([.sl (cs.map clL),.sl ((h.map ah).map ad)]:List Data)) (fun (cs,h)=>aG (xz cs h) (.same (.tup [.sl ((cs.map fun c=>ah (bQ cs (h.getD c.1.toNat 0) c)).map ad),.bool true])))
theorem BZ:∀ a b:(List ClR) × (List Rat),(fun (cs,h)=>([.sl (cs.map clL),.sl ((h.map ah).map ad)]:List Data)) a=(fun (cs,h)=>([.sl (cs.map clL),.sl ((h.map ah).map ad)]:List Data)) b→a=b:=by
  rintro⟨cs1,h1⟩ ⟨cs2,h2⟩ h;simp only[List.cons.injEq,Data.sl.injEq,and_true] at h;exact ahO (af eS _ _ h.1) (It h.2)
@[go_sem] theorem tX (cs:List ClR) (h:List Rat) (hc:xz cs h):rz [.sl (cs.map clL),.sl ((h.map ah).map ad)]=some (.same (.tup [.sl ((cs.map fun c=>ah (bQ cs (h.getD c.1.toNat 0) c)).map ad),.bool true])):=(aV BZ (cs,h)).trans (ak hc _)
theorem Mp (T:Tab) (cL:T gO=mkE nS) (cs:List ClR) (h:List Rat) (hc:xz cs h) :
  wp T mf_clear_payments.body (bt mf_clear_payments.res (.same (.tup [.sl ((cs.map fun c=>ah (bQ cs (h.getD c.1.toNat 0) c)).map ad),.bool true]))) ⟨aw [.dat (.sl (cs.map clL)),.dat (.sl ((h.map ah).map ad))],emp⟩:=by
 refine ao ?_;simp only[mf_clear_payments];have hn:=hc.n;have h12:=hc.len;have hmk1:(24*h.length≤140737488355328)=True:=eq_true (by omega);have hmk2:(h.length≤maxLen)=True:=eq_true (by unfold maxLen;omega)
 have hmk3:(64*cs.length≤140737488355328)=True:=eq_true (by omega);have hmk4:(cs.length≤maxLen)=True:=eq_true (by unfold maxLen;omega)
 have hz:=nrow h.length;have hz2:=xc cs.length;rw[←Ky cs h hc] at hz2;simp only[go_sem,go_sem_proc,ahD,cL,hmk1,hmk2,hz,ahy];refine Q8 T cs h hc (.dat (.sl ((h.map ah).map ad))) _ _ ?_ ?_ ?_ ?_ ?_ ?_ ?_ ?_ (fun _=>0) (fun _=>0) ⟨?_,?_,fun i hi hne=>absurd rfl hne,fun i hi hne=>absurd rfl hne⟩ ?_
 all_goals first | (intro tm m gc gp k0 k1 k6 k7 m57 hat) | (simp only[aO,ahL,if_false,if_true];done) | (simp only[aO,ahL,if_false,if_true];rfl) | (simp only[ay,ahL,if_false,if_true];rfl) | skip
 obtain⟨m1,h1,h2,h3⟩:=th (fun i=>233600+i) (fun i=>clM (ba cs i)) (fun i hi=>by omega) (fun i j _ _ he=>by omega) h.length 0 (pc cs gc) m (by omega) hat.r1 (fun i hi=>by omega) fun i _ hi=>by
  by_cases hce:ba cs i=[]
  ·refine .inl ?_
   unfold pc clM;rw[if_pos hce,if_pos hce]
  ·refine .inr ⟨gc i,4,(ba cs i).length,aC clL (ba cs i),.sl ((ba cs i).map clL),?_,hat.k1 i hi hce,fun m2 hm2=>eB (n:=0) li hm2,?_⟩
   ·unfold pc;rw[if_neg hce]
   ·unfold clM;rw[if_neg hce]
 have h22:m1 233022=some (0,fL h.length (pp cs gp)):=(h3 233022 (by decide) fun i hi=>by omega).trans hat.r2;have h57:m1 233057=none:=(h3 233057 (by decide) fun i hi=>by omega).trans m57
 obtain⟨m2,g1,g2,g3⟩:=th (fun i=>233700+i) (fun i=>plM (plc cs i)) (fun i hi=>by omega) (fun i j _ _ he=>by omega) h.length 0 (pp cs gp) m1 (by omega) h22 (fun i hi=>by omega) fun i _ hi=>by
  by_cases hce:ba cs i=[]
  ·refine .inl ?_
   have hpe:plc cs i=[]:=List.length_eq_zero_iff.1 (by rw[tq,hce];rfl);unfold pp plM;rw[if_pos hce,if_pos hpe]
  ·have hpe:plc cs i≠[]:=fun hh=>hce (List.length_eq_zero_iff.1 (by rw[←tq,hh];rfl))
   refine .inr ⟨gp i,1,(ba cs i).length,aC gH (plc cs i),.sl ((plc cs i).map gH),?_,?_,fun m2 hm2=>by rw[←tq];exact eB (n:=0) gZ hm2,?_⟩
   ·unfold pp;rw[if_neg hce]
   ·exact (h3 (233700+i) (by omega) fun j hj=>by omega).trans (hat.k2 i hi hce)
   ·unfold plM;rw[if_neg hpe]
 have q19:m2 233019=some (0,fL h.length fun i=>clM (ba cs i)):=(g3 233019 (by decide) fun i hi=>by omega).trans h2;have q57:m2 233057=none:=(g3 233057 (by decide) fun i hi=>by omega).trans h57;simp only[go_sem,go_sem_proc,ahD,cL];refine Co (h1.trans g1) ?_;clear h1 h2 h3 g1 g3 h22 h57 hat m57;simp only[go_sem,go_sem_proc,ahD,cL,k0,k1,k6,k7,hmk3,hmk4,hz2,q57,ahy];refine ae [1,7,10,58,59] [233019,233022] (fun (i:Nat) tm m=>i≤h.length∧tm 60 = .dat (.int .i64 i)∧m 233057=some (0,kd oZ (fL cs.length fun j=>pyQ cs h i 0 j))) (fun i=>h.length-i) 0 (by refine⟨by omega,rfl,by simp [ay]⟩) ?_;intro vs ms hvs hms;simp only[go_sem,go_sem_proc,ahD,cL,k1,k7,q19,g2,ahy] at hvs hms;subst hvs hms;clear k0 k1 k6 k7 q19 q57 g2 tm m m1 m2;rintro i tm m hk hm ⟨hi,e60,m57⟩;simp only[go_sem,go_sem_proc,ahD,cL,List.cons.injEq] at hk hm;obtain⟨e1,e7,e10,e58,e59⟩:=hk;obtain⟨m19,m22⟩:=hm;rcases ahE (i<h.length) with hlt | hge
 ·have d1:decide ((i:Int)<(h.length:Int))=true:=decide_eq_true (by omega)
  have w3:IntKind.i64.wrap ((i:Int)+1)=((i+1:Nat):Int):=by rw[an _ (by omega) (by omega)];omega
  obtain⟨x,hx⟩:∃ x,h[i]?=some x:=⟨_,ahF hlt⟩;have hxd:h.getD i 0=x:=by rw[ahj,hx];rfl;have hx0:=hc.x x (ahG hx)
  have hown:OwnOK (ba cs i):=⟨ahz (ahA _ _) h12,fun c hcm=>by
   have h1:=hc.c c (own_mem.1 hcm).1;omega,fun c hcm c' hcm'=>by rw[(own_mem.1 hcm).2,(own_mem.1 hcm').2]⟩
  have hF:=sC x (ba cs i) ⟨hown,hx0.1,hx0.2⟩;rw[xm,←hxd] at hF;rw[←hxd] at hx;have r1:=nu (cJ (fun i=>clM (ba cs i)) hlt);have r2:=nu (cJ (fun i=>plM (plc cs i)) hlt);have n1:(fL h.length fun i=>clM (ba cs i)).length=h.length:=bK _ _;have n2:(fL h.length fun i=>plM (plc cs i)).length=h.length:=bK _ _;have l1:i+1≤h.length:=by omega
  have htd:=M5 (ba cs i) 6;have hpln:=Mt (plc cs i);simp only[go_sem,go_sem_proc,ahD,cL] at hpln;generalize hX:ah (h.getD i 0)=X at *;obtain⟨⟨a1,a2⟩,⟨a3,a4⟩⟩:=X;simp only[ad] at hF;simp only[go_sem,go_sem_proc,ahD,cL,cL,e1,e7,e10,e58,e59,e60,m19,m22,m57,d1,r1,r2,n1,n2,l1,hlt,hx,hX,htd,hF,hpln,ad,ahI,ahy,ahJ,bne,beq_self_eq_true,ahP];refine RX T cs h hc i hlt (.dat (.sl ((h.map ah).map ad))) (.ref 233022 0 1 0 h.length) (.ref 233019 0 1 0 h.length) (.dat (.int .i64 h.length)) (.dat (.int .i64 i)) _ _ _ _ ?_ ?_ ?_ ?_ ?_ ?_ ?_ ?_ ?_ ?_ m19 m22 m57 ?_
  all_goals first | (intro tm' m' k1 k7 k10 k58 k59 k60 q19 q22 q57) | (simp only[aO,ahL,if_false,if_true,e1,e7,e10,e58,e59,e60];done)
  refine qI ?_
  repeat' (intro h<;>simp only[h,go_sem,go_sem_proc,ahD,cL,k1,k7,k10,k58,k59,k60,q19,q22,q57,w3]<;>try refine qS ?_ ?_)
  exact⟨i+1,by omega,by omega,rfl,rfl⟩
 ·have d1:decide ((i:Int)<(h.length:Int))=false:=decide_eq_false (by omega)
  obtain rfl:i=h.length:=by omega
  rw[PP cs h hc,A4] at m57;have hfz:=fun (K:St→Prop) (st:St)=>cU (K:=K) (st:=st) bT 10 233057 0 (cs.map fun c=>ah (bQ cs (h.getD c.1.toNat 0) c))
  rw[ahy] at hfz;refine qI ?_
  repeat' (intro h<;>simp only[h,go_sem,go_sem_proc,ahD,cL,e1,e7,e10,e58,e59,e60,d1,m57,hfz,ahy]<;>try refine qS ?_ ?_)
end Go.Mini
namespace Go.Mini
open Classical
noncomputable def o8 (cs:List ClR) (x:Nat→Rat) (i:Nat) (acc:Option Rat) (c:ClR):Option Rat :=
 if c.2.1=(i:Int) then acc.bind fun s=>if gW s (bQ cs (x c.1.toNat) c)=true then some (s+bQ cs (x c.1.toNat) c) else none else acc
noncomputable def pP (cash:List Int) (cs:List ClR) (x:Nat→Rat) (i:Nat) (l:List ClR):Option Rat:=l.foldl (o8 cs x i) (some ((cash.getD i 0:Int):Rat))
theorem B9 (cash:List Int) (cs:List ClR) (x:Nat→Rat) (i:Nat):pP cash cs x i []=some ((cash.getD i 0:Int):Rat):=rfl
theorem l9 (cash:List Int) (cs:List ClR) (x:Nat→Rat) (i:Nat) (l:List ClR) (c:ClR):pP cash cs x i (l++[c])=o8 cs x i (pP cash cs x i l) c:=by
 unfold pP;rw[ahQ];rfl
theorem Cy (cs:List ClR) (x:Nat→Rat) (i:Nat) (l:List ClR):l.foldl (o8 cs x i) none=none:=by
 induction l with
 | nil=>rfl
 | cons c l ih =>
  have:o8 cs x i none c=none:=by unfold o8;split<;>rfl
  rw[List.foldl_cons,this,ih]
theorem GL {cash:List Int} {cs:List ClR} {x:Nat→Rat} {i:Nat} {l:List ClR} (h:pP cash cs x i l=none) (m:List ClR):pP cash cs x i (l++m)=none:=by
 unfold pP at *;rw[ahQ,h,Cy]
noncomputable def rI (cash:List Int) (cs:List ClR) (x:Nat→Rat) (i:Nat) (l:List ClR):Rat:=((cash.getD i 0:Int):Rat)+sumC (l.map bc) fun c=>if c.to=(i:Int) then (ab cash cs).pay x c else 0
theorem Ii {cash:List Int} {cs:List ClR} (h:c9 cash cs=true) (x:Nat→Rat) (i:Nat) (l:List ClR) {c:ClR} (hc:c∈cs):rI cash cs x i (l++[c])=rI cash cs x i l+if c.2.1=(i:Int) then bQ cs (x c.1.toNat) c else 0:=by
 unfold rI;rw[ahx,iN,←FJ h x hc]
 show _+(_+((if (bc c).to=(i:Int) then (ab cash cs).pay x (bc c) else 0)+0))=_;have e:(bc c).to=c.2.1:=rfl;rw[e,ahR];grind
def vk (cash:List Int) (cs:List ClR) (x:Nat→Rat):Prop:=∀ i,i<cash.length→pP cash cs x i cs=some (x i)
section
variable {cash:List Int} {cs:List ClR} (hs:SmallD cash cs)
include hs
theorem Na:0<gQ cash.length (sU cash cs)∧gQ cash.length (sU cash cs)≤2^145:=by
 refine⟨rC fun k hk=>Ae hs hk,ahz (vv fun k _=>Fb hs k) (Nat.pow_le_pow_right (by omega) ?_)⟩
 have:=hs.n5;omega
theorem pN:∃ M:Nat,0<M∧(∃ a,a≤547∧M≤2^a)∧(∀ i,i<cash.length→DenBy M ((ab cash cs).gr i))∧∀ c∈cs,DenBy M ((ab cash cs).pay (ab cash cs).gr (bc c)):=by
 obtain⟨M,h1,⟨a,h2,h3⟩,h4⟩:=CV hs;obtain⟨p1,p2⟩:=Na hs;refine⟨M*gQ cash.length (sU cash cs),Nat.mul_pos h1 p1,⟨a+145,by omega,by rw[Nat.pow_add];exact Nat.mul_le_mul h3 p2⟩,fun i hi=>(h4 i hi).more _,fun c hc=>?_⟩
 have h5:=E7 hs h4 hc;have hk:(bc c).fr<cash.length:=hs.ok.fr _ (ahS hc);refine h5.of_dvd ?_;obtain⟨m,hm⟩:=rY (D:=sU cash cs) hk;exact⟨m,by rw[hm,Nat.mul_assoc]⟩
theorem NB {i:Nat} (hi:i<cash.length) {l l':List ClR} (hl:cs=l++l'):szR 598 (rI cash cs (ab cash cs).gr i l):=by
 obtain⟨M,h1,⟨a,h2,h3⟩,-,h4⟩:=pN hs
 have hpn:∀ m:List ClR,(∀ c∈m,c∈cs)→0≤sumC (m.map bc) fun c=>if c.to=(i:Int) then (ab cash cs).pay (ab cash cs).gr c else 0:=fun m hm=>dl fun y hy=>by
  obtain⟨c,hc,rfl⟩:=List.mem_map.1 hy
  try dsimp only
  split
  ·exact hs.ok.pay_nonneg _ (ahS (hm c hc))
  ·exact Rat.le_refl
 have hm1:∀ c∈l,c∈cs:=fun c hc=>by rw[hl];simp [hc]
 have hm2:∀ c∈l',c∈cs:=fun c hc=>by rw[hl];simp [hc]
 have hc0:(0:Rat)≤((cash.getD i 0:Int):Rat):=by have:=(hs.cash i).1;exact_mod_cast this
 have hd:DenBy M (rI cash cs (ab cash cs).gr i l):=by
  unfold rI;refine (DenBy.int _ _).add (DenBy.sumC fun y hy=>?_);obtain⟨c,hc,rfl⟩:=List.mem_map.1 hy
  split
  ·exact h4 c (hm1 c hc)
  ·exact DenBy.zero _
 have h0:0≤rI cash cs (ab cash cs).gr i l:=by
  have:=hpn l hm1;unfold rI;grind
 have hle:rI cash cs (ab cash cs).gr i l≤(ab cash cs).gr i:=by
  rw[(rp hs.ok).1 i hi]
  have e:(ab cash cs).phi (ab cash cs).gr i=rI cash cs (ab cash cs).gr i l+sumC (l'.map bc) fun c=>if c.to=(i:Int) then (ab cash cs).pay (ab cash cs).gr c else 0:=by
   have e2:(ab cash cs).phi (ab cash cs).gr i=((cash.getD i 0:Int):Rat)+sumC (cs.map bc) fun c=>if c.to=(i:Int) then (ab cash cs).pay (ab cash cs).gr c else 0:=rfl
   rw[e2];unfold rI;have e3:sumC (cs.map bc) (fun c=>if c.to=(i:Int) then (ab cash cs).pay (ab cash cs).gr c else 0)=sumC ((l++l').map bc) fun c=>if c.to=(i:Int) then (ab cash cs).pay (ab cash cs).gr c else 0:=by rw[←hl]
   rw[e3,ahx,iN];grind
  have:=hpn l' hm2;grind
 exact (hd.sz h1 h3 h0 (e:=51) (Rat.le_trans hle (H5 hs hi))).mono (by omega)
theorem LL:vk cash cs (ab cash cs).gr:=fun i hi=>by
 have key:∀ n (l l':List ClR),l.length=n→cs=l++l'→pP cash cs (ab cash cs).gr i l=some (rI cash cs (ab cash cs).gr i l):=by
  intro n
  induction n with
  | zero =>
   intro l l' hl _;have:l=[]:=List.length_eq_zero_iff.1 hl;subst this;rw[B9];unfold rI;rw[ahT,sumC,ahR]
  | succ n ih =>
   intro l l' hl hcs;rcases ahu l with h0 | ⟨m,c,rfl⟩
   ·subst h0;cases hl
   ·rw[ahv] at *
    simp only[ahn,aho] at hl;have hc:c∈cs:=by rw[hcs];simp;have hcm:cs=m++([c]++l'):=by rw[hcs,List.append_assoc]
    rw[l9,Ii hs.right _ i m hc,ih m _ (by omega) hcm];unfold o8
    by_cases hto:c.2.1=(i:Int)
    ·rw[if_pos hto,if_pos hto,ahU,if_pos]
     refine gS (NB hs hi hcm) (b:=482) ?_ (by omega);rw[←FJ hs.right _ hc];exact yw hs hc
    ·rw[if_neg hto,if_neg hto,ahR]
 have h1:=key _ cs [] rfl (by simp);rw[h1,(rp hs.ok).1 i hi]
 rfl
end
end Go.Mini
namespace Go.Mini
open Go
set_option maxRecDepth 10000
set_option maxHeartbeats 4000000
theorem Ep (x:Rat):x*(x.den:Rat)=(x.num:Rat):=by
 have h:(Rat.divInt x.num x.den)=x:=Rat.num_divInt_den x;rw[Rat.divInt_eq_div] at h;have h0:((x.den:Int):Rat)≠0:=by have:=x.den_nz;exact_mod_cast this
 have h2:(x.num:Rat) / ((x.den:Int):Rat)*((x.den:Int):Rat)=(x.num:Rat):=Rat.div_mul_cancel h0;rw[h,ahV] at h2;exact h2
theorem Gp {x y:Rat} (h:gW x y=true):bX (x+y):=by
 unfold gW at h;simp only[ahW] at h;obtain⟨-,-,h3,h4⟩:=h
 have hd:((x.den:Int)*y.den)≠0:=by
  have h1:=x.den_nz;have h2:=y.den_nz;exact Int.mul_ne_zero (by omega) (by omega)
 have e:(x+y)*(((x.den:Int)*y.den:Int):Rat)=((x.num*y.den+y.num*x.den:Int):Rat):=by
  have e1:x*(x.den:Rat)=(x.num:Rat):=Ep x;have e2:y*(y.den:Rat)=(y.num:Rat):=Ep y;rw[Rat.intCast_add,ahX,ahX,ahX,ahV,ahV,←e1,←e2];grind
 obtain⟨f1,f2⟩:=fu hd e;have:=gL h3;have:=gL h4;exact⟨by omega,by omega⟩
theorem JP {x y:Rat} (hx:bX x) (hy:bX y):kL [.agg (ad (ah x)),.agg (ad (ah y))]=some (.same (.tup [.agg (ad (qF (gW x y) (x+y)).1),.int .i64 (qF (gW x y) (x+y)).2])):=by
 have h1:=dO hx;have h2:=dO hy;have:=w8 (ah x).1.1 (ah x).1.2 (ah x).2.1 (ah x).2.2 (ah y).1.1 (ah y).1.2 (ah y).2.1 (ah y).2.2 ⟨h1.1,h1.2,h2.1,h2.2⟩;exact this.trans (by show some (PRes.same (bz (sV (ah x) (ah y))))=_;rw[uP hx hy];rfl)
noncomputable def zx:List Data→Option PRes:=FF (α:=Int × (List Int) × Int × (List Int) × Int × (List Int) × Int × (List Int)) (fun (s,l,s2,l2,s3,l3,s4,l4)=>([.agg [.int .i64 s,.sl (l.map aa),.int .i64 s2,.sl (l2.map aa)],.agg [.int .i64 s3,.sl (l3.map aa),.int .i64 s4,.sl (l4.map aa)]]:List Data)) (fun (s,l,s2,l2,s3,l3,s4,l4)=>aG (l.length≤1000000∧l2.length≤1000000∧l3.length≤1000000∧l4.length≤1000000) (.same (.bool (kX ((s,l),(s2,l2)) ((s3,l3),(s4,l4))==0))))
theorem As:∀ a b:Int × (List Int) × Int × (List Int) × Int × (List Int) × Int × (List Int),(fun (s,l,s2,l2,s3,l3,s4,l4)=>([.agg [.int .i64 s,.sl (l.map aa),.int .i64 s2,.sl (l2.map aa)],.agg [.int .i64 s3,.sl (l3.map aa),.int .i64 s4,.sl (l4.map aa)]]:List Data)) a=(fun (s,l,s2,l2,s3,l3,s4,l4)=>([.agg [.int .i64 s,.sl (l.map aa),.int .i64 s2,.sl (l2.map aa)],.agg [.int .i64 s3,.sl (l3.map aa),.int .i64 s4,.sl (l4.map aa)]]:List Data)) b→a=b:=by
  rintro⟨s1,l1,s21,l21,s31,l31,s41,l41⟩ ⟨s2,l2,s22,l22,s32,l32,s42,l42⟩ h;simp only[List.cons.injEq,Data.agg.injEq,Data.int.injEq,Data.sl.injEq,and_true,true_and] at h;obtain⟨⟨h1,h2,h3,h4⟩,⟨h5,h6,h7,h8⟩⟩:=h;rw[h1,af aj _ _ h2,h3,af aj _ _ h4,h5,af aj _ _ h6,h7,af aj _ _ h8]
@[go_sem] theorem Oo (s:Int) (l:List Int) (s2:Int) (l2:List Int) (s3:Int) (l3:List Int) (s4:Int) (l4:List Int) (hc:l.length≤1000000∧l2.length≤1000000∧l3.length≤1000000∧l4.length≤1000000):zx [.agg [.int .i64 s,.sl (l.map aa),.int .i64 s2,.sl (l2.map aa)],.agg [.int .i64 s3,.sl (l3.map aa),.int .i64 s4,.sl (l4.map aa)]]=some (.same (.bool (kX ((s,l),(s2,l2)) ((s3,l3),(s4,l4))==0))):=(aV As (s,l,s2,l2,s3,l3,s4,l4)).trans (ak hc _)
theorem ND (T:Tab) (av:T aT=mkE dc) (s:Int) (l:List Int) (s2:Int) (l2:List Int) (s3:Int) (l3:List Int) (s4:Int) (l4:List Int) (hc:l.length≤1000000∧l2.length≤1000000∧l3.length≤1000000∧l4.length≤1000000) :
  wp T mf_clear_Fits_2.body (bt mf_clear_Fits_2.res (.same (.bool (kX ((s,l),(s2,l2)) ((s3,l3),(s4,l4))==0)))) ⟨aw [.dat (.agg [.int .i64 s,.sl (l.map aa),.int .i64 s2,.sl (l2.map aa)]),.dat (.agg [.int .i64 s3,.sl (l3.map aa),.int .i64 s4,.sl (l4.map aa)])],emp⟩:=by
 refine ao ?_;simp only[mf_clear_Fits_2];obtain⟨o1,o2,o3,o4⟩:=hc;refine qI ?_
 repeat' (intro h<;>simp only[h,go_sem,go_sem_proc,ahD,av,o1,o2,o3,o4]<;>try refine qS ?_ ?_)
def jL:List aE→List aE→Bool
 | [],[]=>true
 | a::l,b::m=>(kX a b==0)&&jL l m
 | _,_=>false
theorem BM:∀ (a b:List aE),a.length≠b.length→jL a b=false
 | [],[],h=>absurd rfl h
 | [],_::_,_=>rfl
 | _::_,[],_=>rfl
 | a::l,b::m,h=>by
  unfold jL;rw[BM l m (by simpa using h),ahY]
theorem He {a b:List aE} {i:Nat} {x y:aE} (ha:a[i]?=some x) (hb:b[i]?=some y) (h:jL (a.take i) (b.take i)=true) (hc:(kX x y==0)=false):jL a b=false:=by
 induction i generalizing a b with
 | zero =>
  cases a with
  | nil=>cases ha
  | cons a l =>
   cases b with
   | nil=>cases hb
   | cons b m =>
    simp only[ahZ,Option.some.injEq] at ha hb;subst ha hb;rw[jL,hc,ah0]
 | succ i ih =>
  cases a with
  | nil=>cases ha
  | cons a l =>
   cases b with
   | nil=>cases hb
   | cons b m =>
    simp only[ah1] at ha hb;rw[ah2,ah2,jL,ahW] at h;rw[jL,ih ha hb h.2,ahY]
theorem Gl {a b:List aE} {i:Nat} {x y:aE} (ha:a[i]?=some x) (hb:b[i]?=some y) (h:jL (a.take i) (b.take i)=true) (hc:(kX x y==0)=true):jL (a.take (i+1)) (b.take (i+1))=true:=by
 induction i generalizing a b with
 | zero =>
  cases a with
  | nil=>cases ha
  | cons a l =>
   cases b with
   | nil=>cases hb
   | cons b m =>
    simp only[ahZ,Option.some.injEq] at ha hb;subst ha hb;simp [jL,hc]
 | succ i ih =>
  cases a with
  | nil=>cases ha
  | cons a l =>
   cases b with
   | nil=>cases hb
   | cons b m =>
    simp only[ah1] at ha hb;rw[ah2,ah2,jL,ahW] at h;rw[ah2,ah2,jL,h.1,ih ha hb h.2];rfl
noncomputable def uu:List Data→Option PRes:=FF (α:=(List aE) × (List aE)) (fun (a,b)=>([.sl (a.map ad),.sl (b.map ad),.fn dk []]:List Data)) (fun (a,b)=>aG (okL a∧okL b) (.same (.bool (jL a b))))
theorem ym:∀ a b:(List aE) × (List aE),(fun (a,b)=>([.sl (a.map ad),.sl (b.map ad),.fn dk []]:List Data)) a=(fun (a,b)=>([.sl (a.map ad),.sl (b.map ad),.fn dk []]:List Data)) b→a=b:=by
  rintro⟨a1,b1⟩ ⟨a2,b2⟩ h;simp only[List.cons.injEq,Data.sl.injEq,and_true] at h;exact ahO (af cG _ _ h.1) (af cG _ _ h.2)
@[go_sem] theorem By (a:List aE) (b:List aE) (hc:okL a∧okL b):uu [.sl (a.map ad),.sl (b.map ad),.fn dk []]=some (.same (.bool (jL a b))):=(aV ym (a,b)).trans (ak hc _)
theorem Jz (T:Tab) (mU:T dk=mkE zx) (a:List aE) (b:List aE) (hc:okL a∧okL b) :
  wp T mf_slices_EqualFunc_Frac.body (bt mf_slices_EqualFunc_Frac.res (.same (.bool (jL a b)))) ⟨aw [.dat (.sl (a.map ad)),.dat (.sl (b.map ad)),.dat (.fn dk [])],emp⟩:=by
 refine ao ?_;simp only[mf_slices_EqualFunc_Frac];obtain⟨⟨ha,hao⟩,⟨hb,hbo⟩⟩:=hc;rcases hl:((a.length:Int)==(b.length:Int))
 ·rw[BM a b (by have:=ne_of_beq_false hl;omega)]
  refine qI ?_
  repeat' (intro h<;>simp only[h,go_sem,go_sem_proc,ahD,mU,hl,ahy,bne,ah3]<;>try refine qS ?_ ?_)
 ·have hle:a.length=b.length:=by have:=eq_of_beq hl;omega
  simp only[go_sem,go_sem_proc,ahD,mU,hl,ahy,bne,ahP];refine ae [1,2,15,16] [] (fun (i:Nat) tm mem=>i≤a.length∧jL (a.take i) (b.take i)=true∧tm 17 = .dat (.int .i64 i)) (fun i=>a.length-i) 0 (by refine⟨ah4 _,by simp [jL],rfl⟩) ?_;intro vs ms hvs hms;simp only[go_sem,go_sem_proc,ahD,mU,ahy] at hvs hms;subst hvs hms;rintro i tm mem hk hm ⟨hi,hall,e17⟩;simp only[go_sem,go_sem_proc,ahD,mU,List.cons.injEq] at hk hm;obtain⟨e1,e2,e15,e16⟩:=hk;rcases ahE (i<a.length) with hlt | hge
  ·have d1:decide ((i:Int)<(a.length:Int))=true:=decide_eq_true (by omega)
   have w3:IntKind.i64.wrap ((i:Int)+1)=((i+1:Nat):Int):=by rw[an _ (by omega) (by omega)];omega
   obtain⟨x,hx⟩:∃ x,a[i]?=some x:=⟨_,ahF hlt⟩;obtain⟨y,hy⟩:∃ x,b[i]?=some x:=⟨_,ahF (by omega)⟩;obtain⟨o1,o2⟩:=hao x (ahG hx);obtain⟨o3,o4⟩:=hbo y (ahG hy);have hst:=fun hc=>He hx hy hall hc
   have htk:=fun hc=>Gl hx hy hall hc
   obtain⟨⟨a1,a2⟩,⟨a3,a4⟩⟩:=x;obtain⟨⟨b1,b2⟩,⟨b3,b4⟩⟩:=y;dsimp only at o1 o2 o3 o4;rcases q:(kX ((a1,a2),(a3,a4)) ((b1,b2),(b3,b4))==0)
   ·rw[hst q]
    refine qI ?_
    repeat' (intro h<;>simp only[h,go_sem,go_sem_proc,ahD,mU,e1,e2,e15,e16,e17,hx,hy,d1,w3,o1,o2,o3,o4,q,ad,ahy,ahJ,ah3]<;>try refine qS ?_ ?_)
   ·refine qI ?_
    repeat' (intro h<;>simp only[h,go_sem,go_sem_proc,ahD,mU,e1,e2,e15,e16,e17,hx,hy,d1,w3,o1,o2,o3,o4,q,ad,ahy,ahJ,ahP]<;>try refine qS ?_ ?_)
    exact⟨i+1,by omega,by omega,htk q,rfl⟩
  ·have d1:decide ((i:Int)<(a.length:Int))=false:=decide_eq_false (by omega)
   rw[ahK (by omega),ahK (by omega)] at hall;rw[hall];refine qI ?_
   repeat' (intro h<;>simp only[h,go_sem,go_sem_proc,ahD,mU,e1,e2,e15,e16,e17,d1,ahy]<;>try refine qS ?_ ?_)
theorem MH {α:Type} (p:α→Bool) (l:List α) (k:Nat) (hk:k<l.length) (h:∀ j (hj:j<k),p (l[j]'(by omega))=false) (h2:p l[k]=true):l8 p l=k :=
 lf (fun x hx=>by
  obtain⟨j,hj⟩:=List.mem_iff_getElem?.1 hx;rw[List.getElem?_take] at hj
  by_cases hjk:j<k
  ·rw[if_pos hjk,ahF (by omega),Option.some.injEq] at hj
   rw[←hj];exact h j hjk
  ·rw[if_neg hjk] at hj;cases hj) (ahF hk) h2
theorem nF {d:Day} {h:Nat→Rat} {i:Nat}:∀ k,k≤10→d.fallRank h i k<10→(∀ j,10-k≤j→j<d.fallRank h i k→d.U i (j+1)≤h i)∧h i<d.U i (d.fallRank h i k+1)∧10-k≤d.fallRank h i k
 | 0,_,h1=>by rw[Day.fallRank] at h1;omega
 | k+1,hk,h1=>by
  rw[Day.fallRank] at h1 ⊢
  by_cases hc:h i<d.U i (10-(k+1)+1)
  ·rw[if_pos hc] at h1 ⊢
   exact⟨fun j h2 h3=>by omega,hc,ahh _⟩
  ·rw[if_neg hc] at h1 ⊢
   obtain⟨k1,k2,k3⟩:=nF k (by omega) h1;refine⟨fun j h2 h3=>?_,k2,by omega⟩
   by_cases hj:j=10-(k+1)
   ·rw[hj];grind
   ·exact k1 j (by omega) h3
theorem LU {cash:List Int} {cs:List ClR} (hs:SmallD cash cs) (h:Nat→Rat) (n i:Nat) (hi:i<n) (hlim:bX (h i)) (hf:(ab cash cs).fallRank h i 10<10):l8 (pdI (.solve (bB n h) i)) (fL 10 fun k=>aL cs i (k+1:Nat))=((ab cash cs).fallRank h i 10:Int):=by
 obtain⟨h1,h2,h3⟩:=nF 10 (ahh _) hf;have hU:=fun k:Nat=>hs.upto i k
 have hp:∀ k:Nat,pdI (.solve (bB n h) i) (aL cs i (k+1:Nat))=decide (h i<(ab cash cs).U i (k+1)):=fun k=>by
  have hd:(bB n h).getD i bO=ah (h i):=by rw[ahj,eF h hi];rfl
  have iU:bZ (aL cs i (k+1:Nat)):=dG (by have:=hU (k+1);omega) (by have:=hU (k+1);omega);simp only[pdI];rw[hd,qQ hlim (ew iU),qr,dF hs.right]
 refine MH _ _ _ (by rw[bK];exact hf) (fun j hj=>?_) ?_
 ·have e:=cJ (fun k=>aL cs i (k+1:Nat)) (show j<10 by omega)
  rw[ahF (by rw[bK];omega),Option.some.injEq] at e;rw[e,hp];exact decide_eq_false (by have:=h1 j (by omega) hj;grind)
 ·have e:=cJ (fun k=>aL cs i (k+1:Nat)) hf
  rw[ahF (by rw[bK];omega),Option.some.injEq] at e;rw[e,hp];exact decide_eq_true h2
def DebA.wf (a:DebA) (f:Nat→Nat):DebA:={ a with fl:=fL a.cash.length fun i=>(f i:Int) }
theorem DebA.wf_deb (a:DebA) (f:Nat→Nat) {i:Nat} (hi:i<a.cash.length):(a.wf f).deb i=(a.deb i).sf (f i):=by
 have:(fL a.cash.length fun i=>(f i:Int)).getD i 10=(f i:Int):=j0 _ _ hi;unfold DebA.deb DebA.wf DebR.sf;dsimp only;rw[this]
theorem DebA.At.setf {a:DebA} {m:Mem} {f:Nat→Nat} (h:(a.wf f).At m) {i:Nat} (hi:i<a.cash.length) (r:Nat):(a.wf fun j=>if j=i then r else f j).At (ay m (228500+i) (a.gs.getD i 0) (dD ((a.deb i).sf r))):=by
 refine⟨h.can,bK _ _,h.pl,h.gl,?_,fun j hj=>?_⟩
 ·have:=h.row
  simp only[ay];rw[if_neg (show ¬ ((228023:Nat)=228500+i) by omega)];exact this
 ·rw[DebA.wf_deb a _ hj]
  simp only[ay]
  by_cases hji:j=i
  ·subst hji
   rw[if_pos rfl,if_pos rfl]
   rfl
  ·rw[if_neg (show ¬ ((228500+j:Nat)=228500+i) by omega),if_neg hji]
   have:=h.blk j hj;rw[DebA.wf_deb a _ hj] at this;exact this
theorem DebA.wf_congr (a:DebA) {p q:Nat→Nat} (h:∀ i,i<a.cash.length→p i=q i):a.wf p=a.wf q:=by
 unfold DebA.wf;rw[bU fun i hi=>by rw[h i hi]]
theorem Pu {n i:Nat} (f:Nat→Nat) (h:i<n):fOf (fL n fun i=>(f i:Int)) i=f i:=by
 unfold fOf;rw[j0 _ _ h,ahN]
theorem FO {x:DebR} (h:x.OK) {k g:Nat} {m:Mem} (hm:m k=some (g,dD x)) (n:Nat):toD (n+1) m (.ref k g 1 12 10)=some (.sl (x.us.tail.map aa)):=by
 have e:cut (dD x) 12 10=some (x.us.tail.map iC):=by
  unfold cut;rw[if_pos (by rw[jF h];omega)]
  congr 1
  obtain⟨c,cl,us,f,p⟩:=x;obtain⟨h1,h2⟩:=h;dsimp only at h1 h2
  cases us with
  | nil=>cases h2
  | cons u us =>
   have hl:us.length=10:=by simpa using h2
   unfold dD;dsimp only;rw[ah5,List.drop_append,List.drop_eq_nil_of_le (by rw[ahy];omega),ahy,h1,List.nil_append,ah6]
   rw[show 11-10=1 from rfl,List.cons_append,ah5,ah7,List.take_append_of_le_length (by rw[ahy];omega),ahK (by rw[ahy];omega)]
   rfl
 have e2:∀ l:List Int,(l.map iC).mapM (toD n m)=some (l.map fun z=>Data.int .i64 z):=by
  intro l
  induction l with
  | nil=>rfl
  | cons a l ih =>
   rw[ah6,ah8,ih];rw[show toD n m (iC a)=some (.int .i64 a) from te n _]
   rfl
 have e3:∀ l:List Int,chunk 1 l.length (l.map fun z=>Data.int .i64 z)=l.map aa:=by
  intro l
  induction l with
  | nil=>rfl
  | cons a l ih=>simp only[ah9,ah6,chunk,ah2,ahC,ah5,ah7,ih];rfl
 have hl:x.us.tail.length=10:=by rw[List.length_tail,h.us]
 unfold toD;rw[hm];dsimp only;rw[if_pos rfl,ahI,e];dsimp only;rw[e2];have:=e3 x.us.tail;rw[hl] at this;rw[ahM,this]
theorem DebA.At.up {a:DebA} {m:Mem} (h:a.At m) (hn:a.cash.length≤5) {k g:Nat} {cs:List MV} (hk:k / 1000≠228):a.At (ay m k g cs) :=
 ⟨h.can,h.fl,h.pl,h.gl,by rw[aI (by omega)];exact h.row,fun i hi=>by rw[aI (by omega)];exact h.blk i hi⟩
theorem Ny {α:Type} (n:Nat) (q:Nat→α):(fL (n+1) q).tail=fL n fun k=>q (k+1):=by
 unfold fL;rw[List.range_succ_eq_map,ah6,List.tail_cons,aia]
 rfl
theorem EI {m:Mem} {k g:Nat} {d:Data} (hm:m k=some (g,[.dat d])) (n:Nat):toD (n+1) m (.ptr k g 0)=some (.ptr [d]):=by
 unfold toD;rw[hm];dsimp only;rw[if_pos ⟨rfl,ah4 _⟩,ah7,ah8,te]
 rfl
theorem pQ (n k g sz o l:Nat):toD (n+1) emp (.ref k g sz o l)=none:=by
 unfold toD;rfl
noncomputable def fiR (d:Day) (f:Nat→Nat) (h:Nat→Rat) (i j:Nat):Nat:=if j<i then d.fallen f h j else f j
theorem Sa (T:Tab) (aW:T a0=mkE fa) (av:T aT=mkE dc) (fQ:T bP=mkE oN) {K:bD→St→Prop} {kk:List Todo} (a:DebA) (hs:SmallD a.cash a.cs) (f:Nat→Nat) (hf:∀ i,i<a.cash.length→f i≤10) (h:Nat→Rat) (hlim:∀ i,i<a.cash.length→bX (h i)) (h0:∀ i,i<a.cash.length→0≤h i) (m0:Mem) (v1 v4 v7:MV) (G8 g10:Nat) (tm:Nat→MV) (m:Mem)
  (e1:tm 1=v1) (e4:tm 4=v4) (e6:tm 6 = .ref 228023 a.g 1 0 a.cash.length) (e7:tm 7=v7) (e8:tm 8 = .ptr 217008 G8 0) (e10:tm 10 = .ref 217057 g10 1 0 0) (e31:tm 31 = .ref 228023 a.g 1 0 a.cash.length) (e32:tm 32 = .dat (.int .i64 a.cash.length)) (e33:tm 33 = .dat (.int .i64 0))
  (hat:(a.wf f).At m) (m8:m0 217008=some (G8,[.dat (.sl ((bB a.cash.length h).map ad))])) (m57:m 217057=some (g10,[])) (hfr:∀ k,k / 1000≠228→k≠217011→k≠217057→m k=m0 k)
  (hK:∀ tm' m' g',tm' 1=v1→tm' 4=v4→tm' 6 = .ref 228023 a.g 1 0 a.cash.length→tm' 7=v7→tm' 8 = .ptr 217008 G8 0→tm' 10 = .ref 217057 g' 1 0 (gm (ab a.cash a.cs) f h a.cash.length).length→m' 217057=some (g',aC gH (gm (ab a.cash a.cs) f h a.cash.length))→(a.wf ((ab a.cash a.cs).fallen f h)).At m'→(∀ k,k / 1000≠228→k≠217011→k≠217057→m' k=m0 k)→kont T K kk (.exit 2) ⟨tm',m'⟩) :
  wp T (mf_clear_Solve.body.sub [1,1,1,1,0,0,0,0,1,1,1,0,1,0,0]) (kont T K kk) ⟨tm,m⟩:=by
 simp only[mf_clear_Solve,MCode.sub];have hn:=hs.n5;have hd:=hs.ok
 refine ae [1,4,6,7,8,31,32] [] (fun ((i,g):Nat × Nat) tm m=>i≤a.cash.length∧tm 33 = .dat (.int .i64 i)∧tm 10 = .ref 217057 g 1 0 (gm (ab a.cash a.cs) f h i).length∧m 217057=some (g,aC gH (gm (ab a.cash a.cs) f h i))∧(a.wf (fiR (ab a.cash a.cs) f h i)).At m∧∀ k,k / 1000≠228→k≠217011→k≠217057→m k=m0 k) (fun (i,_)=>a.cash.length-i) (0,g10) (by
  refine⟨by omega,e33,e10,m57,?_,hfr⟩
  rw[a.wf_congr (q:=f) fun j _=>by unfold fiR;rw[if_neg (by omega)]]
  exact hat) ?_
 intro vs ms hvs hms;simp only[go_sem,go_sem_proc,ahD,e1,e4,e6,e7,e8,e31,e32] at hvs hms;subst hvs hms;clear e1 e4 e6 e7 e8 e10 e31 e32 e33 hat m57 hfr tm m;rintro⟨i,g⟩ tm m hk-⟨hi,e33,e10,m57,hat,hfr⟩;simp only[go_sem,go_sem_proc,ahD,List.cons.injEq] at hk;obtain⟨e1,e4,e6,e7,e8,e31,e32⟩:=hk;rcases ahE (i<a.cash.length) with hlt | hge
 ·have d1:decide ((i:Int)<(a.cash.length:Int))=true:=decide_eq_true (by omega)
  have w3:IntKind.i64.wrap ((i:Int)+1)=((i+1:Nat):Int):=by rw[an _ (by omega) (by omega)];omega
  have hf10:=hf i hlt;have hfi:fiR (ab a.cash a.cs) f h i i=f i:=by unfold fiR;rw[if_neg (by omega)];have hrow:m 228023=some (a.g,fL a.cash.length fun i => .ptr (228500+i) (a.gs.getD i 0) 0):=hat.row;have hblk:m (228500+i)=some (a.gs.getD i 0,_):=hat.blk i hlt;rw[DebA.wf_deb a _ hlt,hfi] at hblk;have q8:=(hfr 217008 (by decide) (by decide) (by decide)).trans m8;have hri:=nu (cJ (fun i=>MV.ptr (228500+i) (a.gs.getD i 0) 0) hlt);have hrl:(fL a.cash.length fun i=>MV.ptr (228500+i) (a.gs.getD i 0) 0).length=a.cash.length:=bK _ _;have hok:((a.deb i).sf (f i)).OK:=⟨(a.deb_ok i).cl,(a.deb_ok i).us⟩;have hlen:=jF hok;have qf:List.take 1 (List.drop 22 (dD ((a.deb i).sf (f i))))=[iC (f i:Int)]:=Aa hok;have qu:=u9 hok (k:=f i) (z:=aL a.cs i (f i:Nat)) (cJ _ (by omega));have qs:_=dD ((a.deb i).sf ((ab a.cash a.cs).fallRank h i 10)):=IN hok ((ab a.cash a.cs).fallRank h i 10:Nat);have l1:i+1≤a.cash.length:=by omega
  have l2:f i<11:=by omega
  have l3:(11+f i+1≤24)=True:=eq_true (by omega);have hU:=hs.upto i (f i);have iU:bZ (aL a.cs i (f i:Nat)):=dG (by omega) (by omega);have hw:=ez _ iU;have hcmp:=fp (hlim i hlt) (ew iU);have hcast:=dF hs.right i (f i);have hge':decide (kO (h i) ((aL a.cs i (f i:Nat):Int):Rat)≥0)=decide (((aL a.cs i (f i:Nat):Int):Rat)≤h i):=sB;have hfs:=zk (ab a.cash a.cs) f h i;rw[←hcast] at hfs;have hvg:=eF h hlt;have hfl5:=BB (ab a.cash a.cs) f h i;have hap:=cZ gZ xv 217057 g 8 (gm (ab a.cash a.cs) f h i) i (cs:=[.dat (.int .i64 i)]) rfl (by omega) (by omega);have hslice:=fun (m2:Mem) (hm2:m2 (228500+i)=some (a.gs.getD i 0,dD ((a.deb i).sf (f i)))) n=>FO hok hm2 n
  have hus:((a.deb i).sf (f i)).us.tail=fL 10 fun k=>aL a.cs i (k+1:Nat):=Ny 10 _
  simp only[hus] at hslice
  have hnf:¬ h i<((aL a.cs i (f i:Nat):Int):Rat)→a.wf (fiR (ab a.cash a.cs) f h (i+1))=a.wf (fiR (ab a.cash a.cs) f h i):=fun hh=>a.wf_congr fun j _=>by
   unfold fiR
   by_cases hj:j=i
   ·subst hj
    rw[if_pos (by omega),if_neg (by omega)];unfold Day.fallen;rw[if_neg (by rw[←hcast];exact fun x=>hh x.2)]
   ·by_cases hj2:j<i
    ·rw[if_pos hj2,if_pos (by omega)]
    ·rw[if_neg hj2,if_neg (by omega)]
  have hyf:h i<((aL a.cs i (f i:Nat):Int):Rat)→a.wf (fiR (ab a.cash a.cs) f h (i+1))=a.wf (fun j=>if j=i then (ab a.cash a.cs).fallRank h i 10 else fiR (ab a.cash a.cs) f h i j):=fun hh=>a.wf_congr fun j _=>by
   unfold fiR
   by_cases hj:j=i
   ·subst hj
    rw[if_pos (by omega),if_pos rfl];unfold Day.fallen;rw[if_pos ⟨hlt,by rw[←hcast];exact hh⟩]
   ·rw[if_neg hj]
    by_cases hj2:j<i
    ·rw[if_pos hj2,if_pos (by omega)]
    ·rw[if_neg hj2,if_neg (by omega)]
  have hset:=fun (M:Mem) (hM:(a.wf (fiR (ab a.cash a.cs) f h i)).At M)=>hM.setf hlt ((ab a.cash a.cs).fallRank h i 10)
  have hfk:h i<((aL a.cs i (f i:Nat):Int):Rat)→(ab a.cash a.cs).fallRank h i 10<10:=fun hh=>by
   rw[hcast] at hh;have:=hd.U_mono i hf10;rcases lA hd (h:=h) (i:=i) 10 (ahh _) (by rw[ahl,Day.U_zero];exact h0 i hlt) with ⟨-,e⟩ | ⟨-,e,-⟩
   ·grind
   ·exact e
  have hixr:=fun hh=>LU hs h a.cash.length i hlt (hlim i hlt) (hfk hh)
  have hix:=Dq (fL 10 fun k=>aL a.cs i (k+1:Nat)) (.solve (bB a.cash.length h) i) ⟨by rw[bK];omega,by rw[cW];exact hlt,tg (by omega) hlim,fun x hx=>by
   obtain⟨k,-,rfl⟩:=List.mem_map.1 hx;have:=hs.upto i (k+1:Nat);exact dG (by omega) (by omega)⟩
  simp only[mN] at hix;generalize hSL:(fL 10 fun k=>aL a.cs i (k+1:Nat))=SL at *;generalize hRW:(fL a.cash.length fun i=>MV.ptr (228500+i) (a.gs.getD i 0) 0)=RW at *;have hKd2:(228500+i) / 1000=228:=by omega
  generalize hKd:228500+i=KK at *;generalize hDD:dD ((a.deb i).sf (f i))=DC at *;have n11:(KK=217011)=False:=eq_false (by omega);have n57:(KK=217057)=False:=eq_false (by omega);have n57':(217057=KK)=False:=eq_false (by omega);have hH1:ah (h i)=ah (h i):=rfl;generalize hH:ah (h i)=H at *;generalize hX:ah ((aL a.cs i (f i:Nat):Int):Rat)=X at *;obtain⟨⟨b1,b2⟩,⟨b3,b4⟩⟩:=X;obtain⟨⟨a1,a2⟩,⟨a3,a4⟩⟩:=H;simp only[ad] at hw hcmp;rcases q1:decide (((aL a.cs i (f i:Nat):Int):Rat)≤h i)
  ·have hh:h i<((aL a.cs i (f i:Nat):Int):Rat):=by have:=of_decide_eq_false q1;grind
   rw[if_pos hh] at hfs;rw[←hfs] at hap;rw[hixr hh] at hix;simp only[←hyf hh] at hset;have hl1:(gm (ab a.cash a.cs) f h (i+1)).length=(gm (ab a.cash a.cs) f h i).length+1:=by rw[hfs,ahn];rfl;have hb8:∀ m2:Mem,m2 217008=some (G8,[.dat (.sl ((bB a.cash.length h).map ad))])→toD 5 m2 (.ptr 217008 G8 0)=some (.ptr [.sl ((bB a.cash.length h).map ad)]):=fun m2 hm2=>EI hm2 4
   have hb11:∀ (m2:Mem) (g:Nat),m2 217011=some (g,[.dat (.int .i64 i)])→toD 5 m2 (.ptr 217011 g 0)=some (.ptr [.int .i64 i]):=fun m2 g hm2=>EI hm2 4
   have hempr:=pQ 5 KK (a.gs.getD i 0) 1 12 10;refine qI ?_
   repeat' (intro h<;>simp only[h,go_sem,go_sem_proc,ahD,aW,av,fQ,e1,e4,e6,e7,e8,e10,e31,e32,e33,hrow,hblk,q8,m57,hri,hrl,hlen,qf,qu,qs,l1,l2,l3,hlt,hw,hcmp,hge',q1,hvg,hap,hslice,hix,hb8,hb11,hempr,n11,n57,n57',d1,w3,ad,iC,ahI,ahy,ahJ,aib,scalar,qa,Int.reduceLE,Int.reduceToNat]<;>try refine qS ?_ ?_)
   refine⟨(i+1,g+1),by dsimp only;omega,by dsimp only;omega,rfl,by rw[hl1],rfl,hset _ (((hat.up hn (by decide)).up hn (by decide)).up hn (by decide)),fun k h1 h2 h3=>?_⟩
   rw[if_neg (show ¬ k=KK by intro hk;rw[hk] at h1;exact h1 hKd2),if_neg h3,if_neg h2,if_neg h2];exact hfr k h1 h2 h3
  ·have hh:¬ h i<((aL a.cs i (f i:Nat):Int):Rat):=by have:=of_decide_eq_true q1;grind
   rw[if_neg hh] at hfs;refine qI ?_
   repeat' (intro h<;>simp only[h,go_sem,go_sem_proc,ahD,aW,av,e1,e4,e6,e7,e8,e10,e31,e32,e33,hrow,hblk,q8,hri,hrl,hlen,qf,qu,l1,l2,l3,hlt,hw,hcmp,hge',q1,hvg,n11,d1,w3,ad,iC,ahI,ahy,ahJ]<;>try refine qS ?_ ?_)
   refine⟨(i+1,g),by dsimp only;omega,by dsimp only;omega,rfl,by rw[hfs],by rw[hfs];exact m57,?_,fun k h1 h2 h3=>?_⟩
   ·rw[hnf hh]
    exact (hat.up hn (by decide)).up hn (by decide)
   ·rw[if_neg h2,if_neg h2]
    exact hfr k h1 h2 h3
 ·have d1:decide ((i:Int)<(a.cash.length:Int))=false:=decide_eq_false (by omega)
  obtain rfl:i=a.cash.length:=by omega
  rw[a.wf_congr (q:=(ab a.cash a.cs).fallen f h) fun j hj=>by unfold fiR;rw[if_pos hj]] at hat
  refine qI ?_
  repeat' (intro h<;>simp only[h,go_sem,go_sem_proc,ahD,e1,e4,e6,e7,e8,e10,e31,e32,e33,d1]<;>try refine qS ?_ ?_)
  refine hK _ _ g ?_ ?_ ?_ ?_ ?_ ?_ m57 hat hfr<;>simp only[aO,ahL,if_false,e1,e4,e6,e7,e8,e10]
noncomputable def sX (hv:List aE):List Rat:=hv.map pr
structure FI (cash:List Int) (cs:List ClR) (hv:List aE):Prop where
 n:cash.length≤1000000
 c:cs.length≤1000000
 o:okL hv
 sm:c9 cash cs=true→SmallD cash cs
 sz:c9 cash cs=true→hv.length=cash.length→hv.any (pdF bh)=false→∀ f∈hv,szR 460 (pr f)
open Classical in
noncomputable def FV (cash:List Int) (cs:List ClR) (x:Nat→Rat):Bool:=decide (vk cash cs x)
open Classical in
theorem Cc {cash:List Int} {cs:List ClR} {x:Nat→Rat}:FV cash cs x=true↔vk cash cs x:=by
 unfold FV;exact decide_eq_true_iff
open Classical in
theorem Mw {cash:List Int} {cs:List ClR} {x:Nat→Rat} (h:¬ vk cash cs x):FV cash cs x=false:=by
 unfold FV;exact decide_eq_false h
noncomputable def wM (cash:List Int) (cs:List ClR) (hv:List aE):Bool:=c9 cash cs&&(decide (hv.length=cash.length)&&(!hv.any (pdF bh)&&FV cash cs fun i=>(sX hv).getD i 0))
theorem Lz {hv:List aE} (h:hv.any (pdF bh)=false):hv=(sX hv).map ah∧∀ x∈sX hv,0≤x∧bX x:=by
 rw[aic] at h
 have h1:∀ f∈hv,f=ah (pr f)∧bX (pr f)∧0≤pr f:=fun f hf=>by
  have h2:=h f hf;rw[qE] at h2;simp only[Bool.or_eq_true,aid,decide_eq_true_eq,not_or] at h2;obtain⟨h3,h4⟩:=h2;have h5:=pu (f:=f) (by simpa using h3);refine⟨h5.1,h5.2,?_⟩;rw[h5.1] at h4;have:¬ (pr f).num.sign<0:=h4;have h6:decide ((pr f).num.sign<0)=decide (pr f<0):=pO;have h7:decide ((pr f).num.sign<0)=false:=decide_eq_false this;rw[h6] at h7;have:=of_decide_eq_false h7;grind
 refine⟨?_,fun x hx=>?_⟩
 ·unfold sX
  rw[aia];refine (aie hv).symm.trans (ahw fun f hf=>?_);exact (h1 f hf).1
 ·obtain⟨f,hf,rfl⟩:=List.mem_map.1 hx
  exact⟨(h1 f hf).2.2,(h1 f hf).2.1⟩
theorem Al:∀ (a b:List Rat),(∀ x∈a,bX x)→(∀ x∈b,bX x)→(jL (a.map ah) (b.map ah)=true↔a=b)
 | [],[],_,_=>by simp [jL]
 | [],_::_,_,_=>by simp [jL]
 | _::_,[],_,_=>by simp [jL]
 | x::a,y::b,ha,hb=>by
  have ih:=Al a b (fun z hz=>ha z (aif _ hz)) fun z hz=>hb z (aif _ hz)
  rw[ah6,ah6,jL,ahW,ih,List.cons.injEq,qQ (ha x aig) (hb y aig)]
  have:(kO x y==0)=true↔x=y:=by
   have h1:=BX (x:=x) (y:=y);have h2:=qr (x:=x) (y:=y);rw[beq_iff_eq]
   constructor
   ·intro h
    rw[h] at h1 h2;have e1:¬ y<x:=of_decide_eq_false (h1.symm.trans rfl);have e2:¬ x<y:=of_decide_eq_false (h2.symm.trans rfl);grind
   ·intro h
    have e1:¬ y<x:=by grind
    have e2:¬ x<y:=by grind
    rw[decide_eq_false e1] at h1;rw[decide_eq_false e2] at h2;have:=of_decide_eq_false h1;have:=of_decide_eq_false h2;omega
  rw[this]
structure SumAt (cash:List Int) (cs:List ClR) (x:Nat→Rat) (l:List ClR) (s:Nat→Rat):Prop where
 a:∀ i,i<cash.length→pP cash cs x i l=some (s i)
 l:∀ i,i<cash.length→bX (s i)
theorem SumAt.skip {cash:List Int} {cs:List ClR} {x:Nat→Rat} {l:List ClR} {s:Nat→Rat} (h:SumAt cash cs x l s) {c:ClR} (hc:c.2.1<0):SumAt cash cs x (l++[c]) s:=by
 refine⟨fun i hi=>?_,h.l⟩
 rw[l9,h.a i hi];unfold o8;rw[if_neg (by omega)]
theorem SumAt.add {cash:List Int} {cs:List ClR} {x:Nat→Rat} {l:List ClR} {s:Nat→Rat} (h:SumAt cash cs x l s) {c:ClR} {t:Nat} (hc:c.2.1=(t:Int)) (hk:gW (s t) (bQ cs (x c.1.toNat) c)=true):SumAt cash cs x (l++[c]) fun i=>if i=t then s t+bQ cs (x c.1.toNat) c else s i:=by
 refine⟨fun i hi=>?_,fun i hi=>?_⟩
 ·rw[l9,h.a i hi]
  unfold o8
  by_cases hit:i=t
  ·subst hit
   rw[if_pos hc,ahU,if_pos hk,if_pos rfl]
  ·rw[if_neg (by omega),if_neg hit]
 ·by_cases hit:i=t
  ·rw[if_pos hit];exact Gp hk
  ·rw[if_neg hit];exact h.l i hi
theorem J1 {cash:List Int} {cs:List ClR} {x:Nat→Rat} {l m:List ClR} {s:Nat→Rat} (h:SumAt cash cs x l s) {c:ClR} {t:Nat} (ht:t<cash.length) (hc:c.2.1=(t:Int)) (hk:gW (s t) (bQ cs (x c.1.toNat) c)=false) (hl:cs=(l++[c])++m):¬ vk cash cs x:=fun hf=>by
 have h1:=hf t ht
 have h2:pP cash cs x t (l++[c])=none:=by
  rw[l9,h.a t ht];unfold o8;rw[if_pos hc,ahU,hk];rfl
 have h3:=GL h2 m;rw[←hl,h1] at h3
 cases h3
theorem L2 {cs:List ClR} (hok:∀ c∈cs,0≤c.2.2.2∧c.2.2.2≤33554432) (h12:cs.length≤12) {x:Rat} (hx:szR 460 x) {c:ClR} (hc:c∈cs):bX (bQ cs x c):=by
 have hb:∀ (p:ClR→Prop) [DecidablePred p],0≤bn cs (fun c=>if p c then c.2.2.2 else 0)∧bn cs (fun c=>if p c then c.2.2.2 else 0)≤536870912:=fun p _=>by
  have:=tn (cs:=cs) (F:=fun c=>if p c then c.2.2.2 else 0) (B:=33554432) (by omega) fun c hc=>by
   have h1:=hok c hc
   try dsimp only
   split<;>omega
  omega
 have hU:=hb fun c'=>c'.1=c.1∧c'.2.2.1<c.2.2.1
 have hS:=hb fun c'=>c'.1=c.1∧c'.2.2.1=c.2.2.1
 rw[←Lh] at hS;have ha:=hok c hc;have zA:szR 29 ((c.2.2.2:Int):Rat):=nn (by omega);have zS:szR 29 ((SI cs c.1 c.2.2.1:Int):Rat):=nn (by omega);have zU:szR 29 ((aL cs c.1 c.2.2.1:Int):Rat):=nn (by unfold aL;omega)
 unfold bQ
 split
 ·exact di zA (by omega)
 ·have zp:szR 490 (pos (x-((aL cs c.1 c.2.2.1:Int):Rat))):=by
   unfold pos
   split
   ·exact (show szR 1 0 from⟨by decide,by decide⟩).mono (by omega)
   ·rw[Rat.sub_eq_add_neg];exact (IX hx (nt zU)).mono (by omega)
  by_cases h0:((SI cs c.1 c.2.2.1:Int):Rat)=0
  ·rw[h0,Rat.div_def,Rat.inv_zero,Rat.mul_zero,Rat.zero_mul]
   exact di (show szR 1 0 from⟨by decide,by decide⟩) (by omega)
  ·exact di (xS (PU zA zS h0) zp) (by omega)
noncomputable def ta:List Data→Option PRes:=FF (α:=(List Int) × (List ClR) × (List aE)) (fun (cash,cs,hv)=>([.sl (cash.map aa),.sl (cs.map clL),.sl (hv.map ad)]:List Data)) (fun (cash,cs,hv)=>aG (FI cash cs hv) (.same (.bool (wM cash cs hv))))
theorem AH:∀ a b:(List Int) × (List ClR) × (List aE),(fun (cash,cs,hv)=>([.sl (cash.map aa),.sl (cs.map clL),.sl (hv.map ad)]:List Data)) a=(fun (cash,cs,hv)=>([.sl (cash.map aa),.sl (cs.map clL),.sl (hv.map ad)]:List Data)) b→a=b:=by
  rintro⟨cash1,cs1,hv1⟩ ⟨cash2,cs2,hv2⟩ h;simp only[List.cons.injEq,Data.sl.injEq,and_true] at h;exact ahO (af aj _ _ h.1) (ahO (af eS _ _ h.2.1) (af cG _ _ h.2.2))
@[go_sem] theorem CC (cash:List Int) (cs:List ClR) (hv:List aE) (hc:FI cash cs hv):ta [.sl (cash.map aa),.sl (cs.map clL),.sl (hv.map ad)]=some (.same (.bool (wM cash cs hv))):=(aV AH (cash,cs,hv)).trans (ak hc _)
theorem Md (T:Tab) (cw:T fW=mkE pY) (cH:T cn=mkE oM) (dq:T eG=mkE rz) (aW:T a0=mkE fa) (cf:T cB=mkE kL) (et:T eP=mkE uu) (cash:List Int) (cs:List ClR) (hv:List aE) (hc:FI cash cs hv) :
  wp T mf_clear_Fits.body (bt mf_clear_Fits.res (.same (.bool (wM cash cs hv)))) ⟨aw [.dat (.sl (cash.map aa)),.dat (.sl (cs.map clL)),.dat (.sl (hv.map ad))],emp⟩:=by
 refine ao ?_;simp only[mf_clear_Fits];obtain⟨hn0,hc0,ho,hsm,hsz⟩:=hc;have hany:=zw hv bh ⟨ho,.inr rfl⟩;unfold wM;rcases hr:c9 cash cs
 ·rw[ah0]
  refine qI ?_
  repeat' (intro h<;>simp only[h,go_sem,go_sem_proc,ahD,cw,cH,dq,aW,cf,et,hn0,hc0,hr,ah3]<;>try refine qS ?_ ?_)
 ·rw[aih]
  rcases hl:((hv.length:Int)==(cash.length:Int))
  ·rw[decide_eq_false (show ¬ hv.length=cash.length by have:=ne_of_beq_false hl;omega),ah0]
   refine qI ?_
   repeat' (intro h<;>simp only[h,go_sem,go_sem_proc,ahD,cw,cH,dq,aW,cf,et,hn0,hc0,hr,hl,ahy,bne,ah3,ahP]<;>try refine qS ?_ ?_)
  ·have hle:hv.length=cash.length:=by have:=eq_of_beq hl;omega
   rw[decide_eq_true hle,aih];rcases ha:hv.any (pdF bh)
   ·rw[ha] at hany
    rw[ah3,aih];have hs:=hsm hr;have hn:=hs.n5;have h12:=hs.c12;obtain⟨hve,hvx⟩:=Lz ha;have hvz:=hsz hr hle ha;have hvl:(sX hv).length=cash.length:=by unfold sX;rw[ahy];exact hle;have hrr:=(rightD_iff.1 hr).2.2.2
    have hpo:xz cs (sX hv):=⟨h12,by rw[hvl];exact hn,fun c hc=>by
     have h1:=hrr c hc;have h2:=hs.am c hc;rw[hvl];omega,fun x hx=>⟨(hvx x hx).1,by
     obtain⟨f,hf,rfl⟩:=List.mem_map.1 hx;exact hvz f hf⟩⟩
    have hpy:=tX cs (sX hv) hpo;rw[←hve] at hpy
    have hplim:∀ c∈cs,bX (bQ cs ((sX hv).getD c.1.toNat 0) c):=fun c hc=>by
     have h1:=hrr c hc;refine L2 (fun c hc=>⟨(hrr c hc).2.2.2.2.2.2.1,hs.am c hc⟩) h12 ?_ hc;refine (hpo.x _ ?_).2;rw[ahj,ahF (by rw[hvl];omega)]
     exact List.getElem_mem _
    generalize hXX:sX hv=X at *;simp only[go_sem,go_sem_proc,ahD,cw,cH,dq,aW,cf,et,hn0,hc0,hr,hl,hany,hpy,ahy,bne,ah3,ahP];refine ae [1,2,8,41,42] [] (fun ((i,g):Nat × Nat) tm m=>i≤cash.length∧tm 43 = .dat (.int .i64 i)∧tm 10 = .ref 218051 g 4 0 i∧m 218051=some (g,aC ad (bB i fun j=>((cash.getD j 0:Int):Rat)))) (fun (i,_)=>cash.length-i) (0,0) (by refine⟨by omega,rfl,rfl,rfl⟩) ?_
    intro vs ms hvs hms;simp only[go_sem,go_sem_proc,ahD,cw,cH,dq,aW,cf,et,ahy] at hvs hms;subst hvs hms;rintro⟨i,g⟩ tm m hk-⟨hi,e43,e10,m51⟩;simp only[go_sem,go_sem_proc,ahD,cw,cH,dq,aW,cf,et,List.cons.injEq] at hk;obtain⟨e1,e2,e8,e41,e42⟩:=hk;rcases ahE (i<cash.length) with hlt | hge
    ·have d1:decide ((i:Int)<(cash.length:Int))=true:=decide_eq_true (by omega)
     have w3:IntKind.i64.wrap ((i:Int)+1)=((i+1:Nat):Int):=by rw[an _ (by omega) (by omega)];omega
     obtain⟨y,hy⟩:∃ y,cash[i]?=some y:=⟨_,ahF hlt⟩;have hyd:cash.getD i 0=y:=by rw[ahj,hy];rfl;have hyr:=(rightD_iff.1 hr).2.2.1 y (ahG hy);have hw:=ez y (dG (by omega) (by omega));have hvs:=sd i fun j=>((cash.getD j 0:Int):Rat)
     rw[hyd] at hvs;have hrl:(bB i fun j=>((cash.getD j 0:Int):Rat)).length=i:=cW _ _;have hap:=fun (F:aE) cs hcs=>cZ bT jq 218051 g 64 (bB i fun j=>((cash.getD j 0:Int):Rat)) F (cs:=cs) hcs (by omega) (by omega)
     simp only[hrl] at hap;generalize ah ((y:Int):Rat)=F at *;obtain⟨⟨a1,a2⟩,⟨a3,a4⟩⟩:=F;have hap':=hap ((a1,a2),(a3,a4)) _ rfl;rw[←hvs] at hap';simp only[ad,ah6,ahT] at hap' hw;refine qI ?_
     repeat' (intro h<;>simp only[h,go_sem,go_sem_proc,ahD,cw,cH,dq,aW,cf,et,e1,e2,e8,e10,e41,e42,e43,m51,hy,d1,w3,hw,hap',aa,ahy,ahJ]<;>try refine qS ?_ ?_)
     exact⟨(i+1,g+1),by dsimp only;omega,by dsimp only;omega,rfl,rfl,rfl⟩
    ·have d1:decide ((i:Int)<(cash.length:Int))=false:=decide_eq_false (by omega)
     obtain rfl:i=cash.length:=by omega
     simp only[go_sem,go_sem_proc,ahD,cw,cH,dq,aW,cf,et,e1,e2,e8,e10,e41,e42,e43,d1,ahy]
     refine ae [2,8,10,53,54] [] (fun ((t,s):Nat × (Nat→Rat)) tm m=>t≤cs.length∧tm 55 = .dat (.int .i64 t)∧m 218051=some (g,aC ad (bB cash.length s))∧SumAt cash cs (fun i=>X.getD i 0) (cs.take t) s) (fun (t,_)=>cs.length-t) (0,fun j=>((cash.getD j 0:Int):Rat)) (by
      refine⟨by omega,rfl,m51,⟨fun i hi=>by rw[ahC,B9],fun i hi=>ew (dG (by have:=hs.cash i;omega) (by have:=hs.cash i;omega))⟩⟩) ?_
     intro vs ms hvs hms;simp only[go_sem,go_sem_proc,ahD,cw,cH,dq,aW,cf,et,e2,e8,e10,ahy] at hvs hms;subst hvs hms;clear e1 e2 e8 e10 e41 e42 e43 m51 hany hpy tm m;rintro⟨t,s⟩ tm m hk-⟨ht,e55,m51,hsa⟩;simp only[go_sem,go_sem_proc,ahD,cw,cH,dq,aW,cf,et,List.cons.injEq] at hk;obtain⟨e2,e8,e10,e53,e54⟩:=hk;rcases ahE (t<cs.length) with hlt | hge2
     ·have d1:decide ((t:Int)<(cs.length:Int))=true:=decide_eq_true (by omega)
      have w3:IntKind.i64.wrap ((t:Int)+1)=((t+1:Nat):Int):=by rw[an _ (by omega) (by omega)];omega
      obtain⟨⟨c1,c2,c3,c4⟩,hx⟩:∃ c,cs[t]?=some c:=⟨_,ahF hlt⟩;have hcm:=ahG hx;have hrc:=hrr _ hcm;have hpl:=hplim _ hcm;dsimp only at hrc hpl;have htk:cs.take (t+1)=cs.take t++[(c1,c2,c3,c4)]:=by rw[ahH,hx];rfl;rcases q:decide (c2<0)
      ·obtain⟨j,rfl⟩:∃ j:Nat,c2=(j:Int):=⟨c2.toNat,by have:=of_decide_eq_false q;omega⟩
       have hj:j<cash.length:=by omega
       have hsl:=hsa.l j hj;have hadd:=JP hsl hpl;have hvg:=eF s hj;have hvl2:(bB cash.length s).length=cash.length:=cW _ _;rcases hk:gW (s j) (bQ cs (X.getD c1.toNat 0) (c1,(j:Int),c3,c4))
       ·have hnf:¬ vk cash cs fun i=>X.getD i 0:=J1 hsa hj (c:=(c1,(j:Int),c3,c4)) rfl hk (m:=cs.drop (t+1)) (by rw[←htk,List.take_append_drop])
        rw[Mw hnf];rw[hk] at hadd;have hk0:qF false (s j+bQ cs (X.getD c1.toNat 0) (c1,(j:Int),c3,c4))=(bO,6):=rfl;rw[hk0] at hadd;generalize bB cash.length s=R at *;generalize hP:ah (bQ cs (X.getD c1.toNat 0) (c1,(j:Int),c3,c4))=P at *;generalize ah (s j)=F1 at *;obtain⟨⟨p1,p2⟩,⟨p3,p4⟩⟩:=P;obtain⟨⟨f1,f2⟩,⟨f3,f4⟩⟩:=F1;have t1:=AR hvg;have t2:=Cd (l:=R) (k:=j) (by omega);simp only[ad,bO] at hadd;have h60:((6:Int)==0)=false:=rfl;refine qI ?_
        repeat' (intro h<;>simp only[h,go_sem,go_sem_proc,ahD,cw,cH,dq,aW,cf,et,e2,e8,e10,e53,e54,e55,m51,hx,hP,d1,q,hj,hadd,t1,t2,clL,ad,ahy,ahJ,ahT,h60,bne,ah3]<;>try refine qS ?_ ?_)
       ·have hsn:=hsa.add (c:=(c1,(j:Int),c3,c4)) rfl hk
        rw[←htk] at hsn;dsimp only at hsn;rw[hk] at hadd;have hk0:qF true (s j+bQ cs (X.getD c1.toNat 0) (c1,(j:Int),c3,c4))=(ah (s j+bQ cs (X.getD c1.toNat 0) (c1,(j:Int),c3,c4)),0):=rfl;rw[hk0] at hadd;have hvf:=A8 (N:=cash.length) (k:=j) s (s j+bQ cs (X.getD c1.toNat 0) (c1,(j:Int),c3,c4));generalize hR2:bB cash.length (fun i=>if i=j then s j+bQ cs (X.getD c1.toNat 0) (c1,(j:Int),c3,c4) else s i)=R2 at *;generalize bB cash.length s=R at *;generalize ah (s j+bQ cs (X.getD c1.toNat 0) (c1,(j:Int),c3,c4))=Q at *;generalize hP:ah (bQ cs (X.getD c1.toNat 0) (c1,(j:Int),c3,c4))=P at *;generalize ah (s j)=F1 at *;obtain⟨⟨p1,p2⟩,⟨p3,p4⟩⟩:=P;obtain⟨⟨f1,f2⟩,⟨f3,f4⟩⟩:=F1;obtain⟨⟨g1,g2⟩,⟨g3,g4⟩⟩:=Q;have t1:=AR hvg;have t2:=Cd (l:=R) (k:=j) (by omega);have t3:=Nc (l:=R) (k:=j) (by omega) g1 g2 g3 g4;rw[hvf] at t3;simp only[ad] at hadd;refine qI ?_
        repeat' (intro h<;>simp only[h,go_sem,go_sem_proc,ahD,cw,cH,dq,aW,cf,et,e2,e8,e10,e53,e54,e55,m51,hx,hP,d1,w3,q,hj,hadd,t1,t2,t3,clL,ad,ahy,ahJ,bne,beq_self_eq_true,ahP]<;>try refine qS ?_ ?_)
        exact⟨(t+1,fun i=>if i=j then s j+bQ cs (X.getD c1.toNat 0) (c1,(j:Int),c3,c4) else s i),by dsimp only;omega,by dsimp only;omega,rfl,by rw[hR2],hsn⟩
      ·have hsn:=hsa.skip (c:=(c1,c2,c3,c4)) (of_decide_eq_true q)
       rw[←htk] at hsn;refine qI ?_
       repeat' (intro h<;>simp only[h,go_sem,go_sem_proc,ahD,cw,cH,dq,aW,cf,et,e2,e8,e10,e53,e54,e55,m51,hx,d1,w3,q,clL,ahy,ahJ]<;>try refine qS ?_ ?_)
       exact⟨(t+1,s),by dsimp only;omega,by dsimp only;omega,rfl,rfl,hsn⟩
     ·have d1:decide ((t:Int)<(cs.length:Int))=false:=decide_eq_false (by omega)
      rw[ahK (by omega)] at hsa;have hvok:okL (bB cash.length s):=tg (by omega) hsa.l;have hF:=By (bB cash.length s) hv ⟨hvok,ho⟩
      have he:jL (bB cash.length s) hv=FV cash cs fun i=>X.getD i 0:=by
       have h1:=Al (fL cash.length s) X (fun x hx=>by
        obtain⟨i,hi,rfl⟩:=List.mem_map.1 hx;exact hsa.l i (List.mem_range.1 hi)) fun x hx=>(hvx x hx).2
       rw[←hve] at h1
       have h2:jL (bB cash.length s) hv=true↔vk cash cs fun i=>X.getD i 0:=by
        refine h1.trans ⟨fun h=>?_,fun h=>?_⟩
        ·intro i hi
         rw[hsa.a i hi,←h]
         show some (s i)=some ((fL cash.length s).getD i 0);rw[j0 s 0 hi]
        ·refine (EM hvl fun i hi=>?_).symm
         have h3:=h i hi;rw[hsa.a i hi,Option.some.injEq] at h3;rw[h3]
         show X[i]?=some (X.getD i 0);rw[ahj,ahF (by omega)]
         rfl
       rw[Bool.eq_iff_iff,Cc];exact h2
      rw[he] at hF;have hD:=eB (n:=5) bT m51;rw[cW] at hD;refine qI ?_
      repeat' (intro h<;>simp only[h,go_sem,go_sem_proc,ahD,cw,cH,dq,aW,cf,et,e2,e8,e10,e53,e54,e55,d1,hF,hD,pQ,aib,scalar,ahy]<;>try refine qS ?_ ?_)
   ·rw[ha] at hany
    rw[ahP,ah0];refine qI ?_
    repeat' (intro h<;>simp only[h,go_sem,go_sem_proc,ahD,cw,cH,dq,aW,cf,et,hn0,hc0,hr,hl,hany,ahy,bne,ah3,ahP]<;>try refine qS ?_ ?_)
theorem J8 {n:Nat} {f:Nat→Nat} (h:∀ i,n≤i→f i=10):fOf (fL n fun i=>(f i:Int))=f:=by
 funext i
 by_cases hi:i<n
 ·exact Pu f hi
 ·unfold fOf
  rw[ahj,List.getElem?_eq_none (by rw[bK];omega),h i (by omega)];rfl
theorem zY {d:Day} {f:Nat→Nat} {h:Nat→Rat} (h10:∀ i,d.n≤i→f i=10):∀ i,d.n≤i→d.fallen f h i=10:=fun i hi=>by
 unfold Day.fallen;rw[if_neg fun x=>by omega,h10 i hi]
theorem tH (d:Day):∀ k f,(d.rounds k f).1.length≤k
 | 0,f=>ahh _
 | k+1,f=>by
  rw[Day.rounds]
  split
  ·exact ah4 _
  ·have:=tH d k (d.fallen f (d.top f))
   simp only[ah9];omega
def nW (l:List Nat):List Data:=[.sl (l.map gH)]
theorem wW (l:List Nat):(nW l).length=1:=rfl
theorem HQ (l:List Nat):((nW l).map MV.dat).all MV.one=true:=rfl
def o7 (done:List (List Nat)) (g:Nat):MV:=if done=[] then .nil else .ref 217077 g 1 0 done.length
structure Q6 (cash:List Int) (cs:List ClR) (g:Nat) (gs:Nat→Nat) (f:Nat→Nat) (done:List (List Nat)) (gF:Nat) (m:Mem):Prop where
 at_:∃ p,(((opA cash cs g gs).wf f).wP p).At m
 out:∃ g7,g7=0∧m 217007=some (g7,[.nil,.nil,o7 done gF])
 row:done≠[]→m 217077=some (gF,aC nW done)
 no:∀ k:Nat,k / 1000≠217→k / 1000≠228→m k=none
 f10:∀ i,cash.length≤i→f i=10
 reach:Reach (ab cash (aH cash.length cs)) f
 frs:∃ r,kI cash.length f≤r∧(ab cash (aH cash.length cs)).frs=done++((ab cash (aH cash.length cs)).rounds r f).1∧(ab cash (aH cash.length cs)).fend=((ab cash (aH cash.length cs)).rounds r f).2
theorem RT (T:Tab) (g8:T iX=mkQ nM) (aW:T a0=mkE fa) (av:T aT=mkE dc) (fQ:T bP=mkE oN) {K:bD→St→Prop} {kk:List Todo} (cash:List Int) (cs:List ClR) (hs0:SmallD cash cs) (g:Nat) (gs:Nat→Nat) (v1:MV) (tm:Nat→MV) (m:Mem)
  (e1:tm 1=v1) (e4:tm 4 = .ptr 217004 0 0) (e6:tm 6 = .ref 228023 g 1 0 cash.length) (e7:tm 7 = .ptr 217007 0 0) (m4:m 217004=some (0,[.nil,.nil,.nil])) (hat:Q6 cash cs g gs (fun _=>10) [] 0 m)
  (hK:∀ tm' m' gF,tm' 1=v1→tm' 4 = .ptr 217004 0 0→tm' 7 = .ptr 217007 0 0→m' 217004=some (0,[.nil,.nil,.nil])→m' 217007=some (0,[.dat (.sl ((bB cash.length (ab cash (aH cash.length cs)).gr).map ad)),.nil,o7 (ab cash (aH cash.length cs)).frs gF])→((ab cash (aH cash.length cs)).frs≠[]→m' 217077=some (gF,aC nW (ab cash (aH cash.length cs)).frs))→kont T K kk (.exit 0) ⟨tm',m'⟩) :
  wp T (mf_clear_Solve.body.sub [1,1,1,1,0,0]) (kont T K kk) ⟨tm,m⟩:=by
 simp only[mf_clear_Solve,MCode.sub];have hs:=mO hs0;have hn:=hs.n5;have hd:=hs.ok;refine ae [1,4,6,7] [217004] (fun ((f,done,gF):(Nat→Nat) × List (List Nat) × Nat) tm m=>Q6 cash cs g gs f done gF m) (fun (f,_)=>kI cash.length f) (fun _=>10,[],0) (by exact hat) ?_;intro vs ms hvs hms;simp only[go_sem,go_sem_proc,ahD,e1,e4,e6,e7,m4] at hvs hms;subst hvs hms;clear e1 e4 e6 e7 m4 hat tm m;rintro⟨f,done,gF⟩ tm m hk m4 hat;simp only[go_sem,go_sem_proc,ahD,List.cons.injEq] at hk m4;obtain⟨e1,e4,e6,e7⟩:=hk;obtain⟨⟨p,hat⟩,⟨g7,rfl,hout⟩,hrow,hno,hf10,hreach,r,hr1,hr2,hr3⟩:=hat;dsimp only at *;have hfo:=J8 hf10;have hrc:=hreach;obtain⟨gI,hinv,-⟩:=hreach
 have hQ:=AG (((opA cash cs g gs).wf f).wP p) m ⟨hat,fun k hk=>hno k (by omega) (by omega),fun k hk=>hno k (by omega) (by omega),fun k hk=>hno k (by omega) (by omega),⟨hs,fun x hx=>by
  obtain⟨i,-,rfl⟩:=List.mem_map.1 hx;have:=hinv.le i;omega⟩,⟨gI,by show Inv (ab cash (aH cash.length cs)) (fOf (fL cash.length fun i=>(f i:Int))) gI;rw[hfo];exact hinv⟩⟩
 have hQ':nM [.ref 228023 g 1 0 cash.length] m=some (za (((opA cash cs g gs).wf f).wP p) m):=hQ;simp only[go_sem,go_sem_proc,ahD,g8,e1,e4,e6,e7,hQ'];have ht:=Day.top_spec (hd.hex f hrc);have hlim:∀ i,i<cash.length→bX ((ab cash (aH cash.length cs)).top f i):=fun i hi=>di (JO hs hrc hi) (by omega)
 have h0:∀ i,i<cash.length→0≤(ab cash (aH cash.length cs)).top f i:=fun i hi=>ht.nonneg hd hi
 rintro rr mem' ⟨hrr,p',hat',hout'⟩
 have hrr2:rr = .tup [.dat (.sl ((bB cash.length ((ab cash (aH cash.length cs)).top f)).map ad)),.dat (.bool true)]:=by
  rw[hrr]
  show MV.tup [.dat (.sl ((bB cash.length ((ab cash (aH cash.length cs)).top (fOf (fL cash.length fun i=>(f i:Int))))).map ad)),.dat (.bool true)]=_;rw[hfo]
 clear hrr hQ hQ';subst hrr2;have hO:∀ k:Nat,k / 1000≠228→mem' k=m k:=fun k hk=>hout' k fun i hi=>by have:i<cash.length:=hi;omega;have q4:=(hO 217004 (by decide)).trans m4;have q7:=(hO 217007 (by decide)).trans hout;have hgr:(ab cash (aH cash.length cs)).falls f=gm (ab cash (aH cash.length cs)) f ((ab cash (aH cash.length cs)).top f) cash.length:=rfl
 have hfin0:(ab cash (aH cash.length cs)).falls f=[]→(ab cash (aH cash.length cs)).frs=done∧(ab cash (aH cash.length cs)).gr=(ab cash (aH cash.length cs)).top f:=fun h=>by
  have:=(ab cash (aH cash.length cs)).rounds_stop h r;rw[this,aht] at hr2;rw[this] at hr3;exact⟨hr2,by unfold Day.gr;rw[hr3]⟩
 have hnext:(ab cash (aH cash.length cs)).falls f≠[]→kI cash.length ((ab cash (aH cash.length cs)).fallen f ((ab cash (aH cash.length cs)).top f))<kI cash.length f∧Reach (ab cash (aH cash.length cs)) ((ab cash (aH cash.length cs)).fallen f ((ab cash (aH cash.length cs)).top f))∧(∀ i,cash.length≤i→(ab cash (aH cash.length cs)).fallen f ((ab cash (aH cash.length cs)).top f) i=10)∧∃ r,kI cash.length ((ab cash (aH cash.length cs)).fallen f ((ab cash (aH cash.length cs)).top f))≤r∧(ab cash (aH cash.length cs)).frs=(done++[(ab cash (aH cash.length cs)).falls f])++((ab cash (aH cash.length cs)).rounds r ((ab cash (aH cash.length cs)).fallen f ((ab cash (aH cash.length cs)).top f))).1∧(ab cash (aH cash.length cs)).fend=((ab cash (aH cash.length cs)).rounds r ((ab cash (aH cash.length cs)).fallen f ((ab cash (aH cash.length cs)).top f))).2:=fun hne=>by
  have hlt:=rR hd hd.hex hrc hne;have hlt':kI cash.length ((ab cash (aH cash.length cs)).fallen f ((ab cash (aH cash.length cs)).top f))<kI cash.length f:=hlt;refine⟨hlt',hrc.next hd hd.hex,zY (d:=ab cash (aH cash.length cs)) hf10,?_⟩
  cases r with
  | zero=>omega
  | succ r =>
   rw[Day.rounds,if_neg hne] at hr2 hr3;exact⟨r,by omega,by rw[hr2];simp,hr3⟩
 generalize hd':ab cash (aH cash.length cs)=d at *;generalize hV:(bB cash.length (d.top f)).map ad=V at *;simp only[go_sem,go_sem_proc,ahD,e1,e4,e6,e7,q4,q7,ahP];subst hd';rw[←hV];refine Sa T aW av fQ ((opA cash cs g gs).wP p') hs f (fun i _=>hinv.le i) ((ab cash (aH cash.length cs)).top f) hlim h0 _ v1 (.ptr 217004 0 0) (.ptr 217007 0 0) (cD (mem' 217008)) (cD (mem' 217057)) _ _ ?_ ?_ ?_ ?_ ?_ ?_ ?_ ?_ ?_ (((show ((((opA cash cs g gs).wP p').wf f)).At mem' from hat').up hn (by decide)).up hn (by decide)|>.up hn (by decide)) ?_ ?_ (fun _ _ _ _=>rfl) ?_
 all_goals first | (intro tm2 m2 g2 k1 k4 k6 k7 k8 k10 q57 hat2 hfr2) | (simp only[aO,ahL,if_false,if_true,e1,e4,e6,e7];done) | (simp only[aO,ahL,if_false,if_true];rfl) | (simp only[aO,ahL,if_false,if_true,e1,e4,e6,e7];rfl) | (simp only[ay,ahL,if_false,if_true];done) | (simp only[ay,ahL,if_false,if_true];rfl) | skip
 replace k10:tm2 10 = .ref 217057 g2 1 0 ((ab cash (aH cash.length cs)).falls f).length:=k10;replace q57:m2 217057=some (g2,aC gH ((ab cash (aH cash.length cs)).falls f)):=q57;replace k6:tm2 6 = .ref 228023 g 1 0 cash.length:=k6;replace hat2:(((opA cash cs g gs).wP p').wf ((ab cash (aH cash.length cs)).fallen f ((ab cash (aH cash.length cs)).top f))).At m2:=hat2;have r4:m2 217004=some (0,[.nil,.nil,.nil]):=(hfr2 217004 (by decide) (by decide) (by decide)).trans (by simp only[ay,ahL,if_false];exact q4)
 have r7:m2 217007=some (0,[.nil,.nil,o7 done gF]):=(hfr2 217007 (by decide) (by decide) (by decide)).trans (by simp only[ay,ahL,if_false];exact q7);have r8:m2 217008=some (cD (mem' 217008),[.dat (.sl V)]):=(hfr2 217008 (by decide) (by decide) (by decide)).trans (by simp only[ay,ahL,if_false,if_true];rw[hV])
 have r77:done≠[]→m2 217077=some (gF,aC nW done):=fun h=>(hfr2 217077 (by decide) (by decide) (by decide)).trans (by simp only[ay,ahL,if_false];exact (hO 217077 (by decide)).trans (hrow h))
 have rne:∀ (k j:Nat),k / 1000≠217→j / 1000=217→k≠j:=fun k j h1 h2 h=>h1 (h ▸ h2)
 have rno:∀ k:Nat,k / 1000≠217→k / 1000≠228→m2 k=none:=fun k h1 h2=>(hfr2 k h2 (rne k _ h1 (by decide)) (rne k _ h1 (by decide))).trans (by
  rw[aI (rne k _ h1 (by decide)),aI (rne k _ h1 (by decide)),aI (rne k _ h1 (by decide))];exact (hO k h2).trans (hno k h1 h2))
 clear hfr2 hO hat' hout' q4 q7 hout hrow hno m4 e1 e4 e6 e7 hr2 hr3
 by_cases hne:(ab cash (aH cash.length cs)).falls f=[]
 ·obtain⟨h1,h2⟩:=hfin0 hne
  rw[hne] at k10;rw[h1,h2] at hK;have hl0:(((0:Nat):Int)==0)=true:=rfl;simp only[go_sem,go_sem_proc,ahD,k1,k4,k6,k7,k8,k10,r4,r7,r8,hl0,List.length_nil,List.set_cons_zero];refine hK _ _ gF ?_ ?_ ?_ ?_ ?_ fun h=>?_
  ·simp only[aO,ahL,if_false];exact k1
  ·simp only[aO,ahL,if_false];exact k4
  ·simp only[aO,ahL,if_false];exact k7
  ·simp only[ay,ahL,if_false];exact r4
  ·simp only[ay,ahL,if_true];rw[hV]
  ·simp only[ay,ahL,if_false];exact r77 h
 ·obtain⟨h1,h2,h3,h4⟩:=hnext hne
  have hfl5:((ab cash (aH cash.length cs)).falls f).length≤5:=ahz (ahA _ _) (by rw[ahB];exact hn)
  have hl0:((((ab cash (aH cash.length cs)).falls f).length:Int)==0)=false:=by
   have:((ab cash (aH cash.length cs)).falls f).length≠0:=fun h=>hne (List.length_eq_zero_iff.1 h)
   rw[beq_eq_false_iff_ne];omega
  have hfz:=fun (K:St→Prop) (st:St)=>cU (K:=K) (st:=st) gZ 10 217057 g2 ((ab cash (aH cash.length cs)).falls f)
  have hml:(1≤maxLen)=True:=eq_true (by decide);generalize hfd:(ab cash (aH cash.length cs)).falls f=fl at *;clear hfin0 hnext hK;have hnoF:∀ (M:Mem),(∀ k:Nat,k / 1000≠217→M k=m2 k)→∀ k:Nat,k / 1000≠217→k / 1000≠228→M k=none:=fun M hM k h1 h2=>(hM k h1).trans (rno k h1 h2)
  by_cases hdn:done=[]
  ·subst hdn
   have hfm:o7 [] gF = .nil:=rfl;rw[hfm] at r7;simp only[go_sem,go_sem_proc,ahD,k1,k4,k6,k7,k8,k10,r4,r7,r8,q57,hl0,hfz,hml];refine⟨(_,[fl],cD (m2 217077)),h1,⟨⟨p',((hat2.up hn (by decide)).up hn (by decide)).up hn (by decide)⟩,⟨0,rfl,?_⟩,fun _=>?_,?_,h3,h2,h4⟩⟩
   ·rw[bW];rfl
   ·rw[aI (by decide),bW];rfl
   ·exact hnoF _ fun k hk=>by rw[aI (rne k _ hk (by decide)),aI (rne k _ hk (by decide)),aI (rne k _ hk (by decide))]
  ·have hfm:o7 done gF = .ref 217077 gF 1 0 done.length:=by unfold o7;rw[if_neg hdn]
   rw[hfm] at r7;have q77:=r77 hdn
   have hdl:done.length+1≤50:=by
    obtain⟨r',-,h5,-⟩:=h4;have h6:=tH (ab cash (aH cash.length cs)) (10*(ab cash (aH cash.length cs)).n) fun _=>10
    have h7:(ab cash (aH cash.length cs)).frs.length≤10*cash.length:=h6;rw[h5] at h7;simp only[ahn,aho] at h7;omega
   have hap:=cZ wW HQ 217077 gF 24 done fl (cs:=[.dat (.sl (fl.map gH))]) rfl (by omega) (by omega);simp only[go_sem,go_sem_proc,ahD,k1,k4,k6,k7,k8,k10,r4,r7,r8,q57,q77,hl0,hfz,hap];refine⟨(_,done++[fl],gF+1),h1,⟨⟨p',((hat2.up hn (by decide)).up hn (by decide)).up hn (by decide)⟩,⟨0,rfl,?_⟩,fun _=>?_,?_,h3,h2,h4⟩⟩
   ·rw[bW]
    unfold o7;rw[if_neg (by simp),ahn];rfl
   ·rw[aI (by decide),bW]
   ·exact hnoF _ fun k hk=>by rw[aI (rne k _ hk (by decide)),aI (rne k _ hk (by decide)),aI (rne k _ hk (by decide))]

theorem Alike.gr {d e:Day} (h:Alike d e):d.gr=e.gr:=by unfold Day.gr Day.fend;rw[h.top,h.rounds,h.n]
theorem Alike.frs {d e:Day} (h:Alike d e):d.frs=e.frs:=by unfold Day.frs;rw[h.rounds,h.n]
structure Ff (cash:List Int) (cs:List ClR):Prop where
 n:cash.length≤1000000
 c:cs.length≤1000000
 sm:c9 cash cs=true→SmallD cash cs
noncomputable def iy (cash:List Int) (cs:List ClR):List aE:=cs.map fun c=>ah (bQ cs ((ab cash cs).gr c.1.toNat) c)
noncomputable def iI (cash:List Int) (cs:List ClR):List aE:=bB cash.length (ab cash cs).gr
noncomputable def Dl (cash:List Int) (cs:List ClR):Data:=if c9 cash cs=true then .tup [.agg [.sl ((iI cash cs).map ad),.sl ((iy cash cs).map ad),.sl ((ab cash cs).frs.map nW)],.int .i64 0] else .tup [.agg [.sl [],.sl [],.sl []],.int .i64 1]
theorem Nt {cash:List Int} {cs:List ClR} (hs:SmallD cash cs):xz cs ((ahi cash.length).map (ab cash cs).gr):=by
 have hr:=(rightD_iff.1 hs.right).2.2.2;have hn:=hs.n5;refine⟨hs.c12,by simp;exact hn,fun c hc=>?_,fun x hx=>?_⟩
 ·have h1:=hr c hc
  have h2:=hs.am c hc;rw[ahy,ahB];omega
 ·obtain⟨i,hi,rfl⟩:=List.mem_map.1 hx
  have hi':=List.mem_range.1 hi;exact⟨kq hs.ok hi',(Bj hs hi').mono (by omega)⟩
theorem NF {cash:List Int} {cs:List ClR} (hs:SmallD cash cs):(cs.map fun c=>ah (bQ cs (((ahi cash.length).map (ab cash cs).gr).getD c.1.toNat 0) c))=iy cash cs:=ahw fun c hc=>by
 have h1:=(rightD_iff.1 hs.right).2.2.2 c hc;have:((ahi cash.length).map (ab cash cs).gr).getD c.1.toNat 0=(ab cash cs).gr c.1.toNat:=j0 (ab cash cs).gr 0 (show c.1.toNat<cash.length by omega);rw[this]
noncomputable def lT:List Data→Option PRes:=FF (α:=(List Int) × (List ClR)) (fun (cash,cs)=>([.sl (cash.map aa),.sl (cs.map clL)]:List Data)) (fun (cash,cs)=>aG (Ff cash cs) (.same (Dl cash cs)))
theorem xR:∀ a b:(List Int) × (List ClR),(fun (cash,cs)=>([.sl (cash.map aa),.sl (cs.map clL)]:List Data)) a=(fun (cash,cs)=>([.sl (cash.map aa),.sl (cs.map clL)]:List Data)) b→a=b:=by
  rintro⟨cash1,cs1⟩ ⟨cash2,cs2⟩ h;simp only[List.cons.injEq,Data.sl.injEq,and_true] at h;exact ahO (af aj _ _ h.1) (af eS _ _ h.2)
@[go_sem] theorem n8 (cash:List Int) (cs:List ClR) (hc:Ff cash cs):lT [.sl (cash.map aa),.sl (cs.map clL)]=some (.same (Dl cash cs)):=(aV xR (cash,cs)).trans (ak hc _)
theorem KW (T:Tab) (cw:T fW=mkE pY) (ng:T lQ=mkQ yC) (g8:T iX=mkQ nM) (aW:T a0=mkE fa) (av:T aT=mkE dc) (fQ:T bP=mkE oN) (dq:T eG=mkE rz) (cash:List Int) (cs:List ClR) (hc:Ff cash cs) :
  wp T mf_clear_Solve.body (bt mf_clear_Solve.res (.same (Dl cash cs))) ⟨aw [.dat (.sl (cash.map aa)),.dat (.sl (cs.map clL))],emp⟩:=by
 refine ao ?_;simp only[mf_clear_Solve];obtain⟨hn0,hc0,hsm⟩:=hc;unfold Dl;rcases hr:c9 cash cs
 ·rw[if_neg (by decide)]
  refine qI ?_
  repeat' (intro h<;>simp only[h,go_sem,go_sem_proc,ahD,cw,ng,g8,aW,av,fQ,dq,hn0,hc0,hr,ah3]<;>try refine qS ?_ ?_)
 ·rw[if_pos rfl]
  have hs:=hsm hr;have hn:=hs.n5;have hal:=qP hr
  have hno:NoK 228 (ay emp 217004 0 [MV.nil,MV.nil,MV.nil]):=fun k hk=>by
   rw[aI (by rintro rfl;omega)];rfl
  have hQ:=C4 cash cs (ay emp 217004 0 [MV.nil,MV.nil,MV.nil]) ⟨hs,hno⟩;simp only[go_sem,go_sem_proc,ahD,cw,ng,g8,aW,av,fQ,dq,hn0,hc0,hr,hQ,ahP];rintro rr m ⟨g,gs,rfl,hat,hfr⟩;dsimp only at hat;have m4:m 217004=some (0,[.nil,.nil,.nil]):=(hfr 217004 (by decide)).trans bW;have m7:m 217007=none:=(hfr 217007 (by decide)).trans (aI (by decide));simp only[go_sem,go_sem_proc,ahD,cw,ng,g8,aW,av,fQ,dq,m7];refine RT T g8 aW av fQ cash cs hs g gs (.dat (.sl (cs.map clL))) _ _ ?_ ?_ ?_ ?_ ?_ ⟨⟨fun _=>false,?_⟩,⟨0,rfl,?_⟩,fun h=>absurd rfl h,?_,fun _ _=>rfl,Reach.start (mO hs).ok,⟨10*cash.length,?_,rfl,rfl⟩⟩ ?_
  all_goals first | (intro tm2 m2 gF k1 k4 k7 q4 q7 q77) | (simp only[aO,ahL,if_false,if_true];done) | (simp only[aO,ahL,if_false,if_true];rfl) | (simp only[ay,ahL,if_false,if_true];done) | (simp only[ay,ahL,if_false,if_true];rfl) | (simp only[ay,ahL,if_false,if_true];exact m4) | skip
  ·exact hat.up hn (by decide)
  ·intro k h1 h2
   rw[aI (by rintro rfl;exact h1 (by decide)),hfr k h2,aI (by rintro rfl;exact h1 (by decide))];rfl
  ·rw[ue];exact ahh _
  rw[←hal.gr,←hal.frs] at q7;rw[←hal.frs] at q77;have hpy:=tX cs ((ahi cash.length).map (ab cash cs).gr) (Nt hs);rw[NF hs] at hpy;replace hpy:rz [.sl (cs.map clL),.sl ((iI cash cs).map ad)]=some (.same (.tup [.sl ((iy cash cs).map ad),.bool true])):=hpy;replace q7:m2 217007=some (0,[.dat (.sl ((iI cash cs).map ad)),.nil,o7 (ab cash cs).frs gF]):=q7;generalize iI cash cs=HV at *;generalize iy cash cs=PD at *;generalize (ab cash cs).frs=FR at *;clear hal hQ hat hfr m4 m7
  by_cases hfe:FR=[]
  ·subst hfe
   replace q7:m2 217007=some (0,[.dat (.sl (HV.map ad)),.nil,.nil]):=q7;simp only[go_sem,go_sem_proc,ahD,cw,ng,g8,aW,av,fQ,dq];refine sa ?_;rintro M rfl;refine qI ?_
   repeat' (intro h<;>simp only[h,go_sem,go_sem_proc,ahD,cw,ng,g8,aW,av,fQ,dq,k1,k4,k7,q4,q7,hpy,ahP,ahT]<;>try refine qS ?_ ?_)
  ·have q8:=q77 hfe
   have hfm:o7 FR gF = .ref 217077 gF 1 0 FR.length:=by unfold o7;rw[if_neg hfe]
   rw[hfm] at q7;simp only[go_sem,go_sem_proc,ahD,cw,ng,g8,aW,av,fQ,dq];refine rL (MoveS.mfrz 217007 0 _ 2 217077 gF 1 0 FR.length _ (.sl (FR.map nW)) q7 rfl q8 (by decide) (eB (n:=0) wW q8)) ?_;intro M hM;have hM7:M 217007=some (0,[.dat (.sl (HV.map ad)),.nil,.dat (.sl (FR.map nW))]):=by rw[hM,bW];rfl
   have hM4:M 217004=some (0,[.nil,.nil,.nil]):=by
    rw[hM,aI (by decide)];unfold kill;rw[aI (by decide)];exact q4
   clear hM;refine qI ?_
   repeat' (intro h<;>simp only[h,go_sem,go_sem_proc,ahD,cw,ng,g8,aW,av,fQ,dq,k1,k4,k7,hM4,hM7,hpy,ahP]<;>try refine qS ?_ ?_)
theorem yT (cs:List ClR) (w:Int):(ba cs w).length≤cs.length:=by unfold ba;exact ahA _ _
set_option maxHeartbeats 1000000
theorem fewD_iff {cash:List Int} {cs:List ClR}:wc cash cs=true↔cash.length≤5∧cs.length≤12∧(∀ x∈cash,1000000<x→1000000000000000<x)∧∀ c∈cs,1000000<c.2.2.2→1000000000000000<c.2.2.2:=by
 have hf:∀ m:Int,lz m=true↔(1000000<m→1000000000000000<m):=fun m=>by
  unfold lz
  by_cases h1:m>1000000<;>by_cases h2:m≤1000000000000000<;>simp [h1,h2]<;>omega
 unfold wc;simp only[ahW,aid,decide_eq_false_iff_not,List.all_eq_true,hf]
 constructor
 ·rintro⟨h1,h2,h3,h4⟩
  exact⟨by omega,by omega,h3,h4⟩
 ·rintro⟨h1,h2,h3,h4⟩
  exact⟨by omega,by omega,h3,h4⟩
theorem OG {cash:List Int} {cs:List ClR} (hf:wc cash cs=true) (hr:c9 cash cs=true):(∀ x∈cash,0≤x∧x≤1000000)∧∀ c∈cs,0≤c.2.2.2∧c.2.2.2≤1000000:=by
 obtain⟨-,-,h3,h4⟩:=fewD_iff.1 hf;obtain⟨-,-,h5,h6⟩:=rightD_iff.1 hr;refine⟨fun x hx=>?_,fun c hc=>?_⟩
 ·have:=h3 x hx;have:=h5 x hx;omega
 ·have:=h4 c hc;have:=h6 c hc;omega
theorem xk {cash:List Int} {cs:List ClR} (hf:wc cash cs=true) (hr:c9 cash cs=true):SmallD cash cs:=by
 obtain⟨h1,h2,-,-⟩:=fewD_iff.1 hf;exact⟨hr,h1,h2,fun c hc=>by have:=(OG hf hr).2 c hc;omega⟩
theorem ME {cash:List Int} {cs:List ClR} (hf:wc cash cs=true):Ff cash cs:=by
 obtain⟨h1,h2,-,-⟩:=fewD_iff.1 hf;exact⟨by omega,by omega,xk hf⟩
section
variable {cash:List Int} {cs:List ClR} (hs:SmallD cash cs)
include hs
theorem L9:okL (iI cash cs):=by
 have:=hs.n5;exact tg (by omega) fun i hi=>di (Bj hs hi) (by omega)
theorem GZ:(iI cash cs).any (pdF bh)=false∧sX (iI cash cs)=(ahi cash.length).map (ab cash cs).gr:=by
 refine⟨?_,?_⟩
 ·rw[aic]
  intro f hf;obtain⟨y,hy,rfl⟩:=List.mem_map.1 hf;obtain⟨i,hi,rfl⟩:=List.mem_map.1 hy;have hi':i<cash.length:=List.mem_range.1 hi;have hl:=di (Bj hs hi') (by omega);have hn:=kq hs.ok hi';rw[qE]
  show ¬ (!rightF (ah ((ab cash cs).gr i))||decide ((ah ((ab cash cs).gr i)).1.1<0))=true;rw[me hl];have:decide ((ab cash cs).gr i<0)=false:=decide_eq_false (by grind);rw[←pO] at this;have h2:decide ((ah ((ab cash cs).gr i)).1.1<0)=false:=this;rw[h2];decide
 ·unfold sX iI bB
  rw[aia];exact (ahw fun x _=>kE x).trans (aie _)
theorem Kx:FI cash cs (iI cash cs)∧wM cash cs (iI cash cs)=true:=by
 obtain⟨h1,h2⟩:=GZ hs;have hn:=hs.n5;have h12:=hs.c12;refine⟨⟨by omega,by omega,L9 hs,fun _=>hs,fun _ _ _ f hf=>?_⟩,?_⟩
 ·obtain⟨y,hy,rfl⟩:=List.mem_map.1 hf
  obtain⟨i,hi,rfl⟩:=List.mem_map.1 hy;rw[kE];exact (Bj hs (List.mem_range.1 hi)).mono (by omega)
 ·unfold wM
  have hl:(iI cash cs).length=cash.length:=cW _ _;rw[hs.right,h1,decide_eq_true hl,aih,aih,ah3,aih,Cc,h2];intro i hi;have hx:=LL hs i hi
  have hcs:pP cash cs (fun i=>((ahi cash.length).map (ab cash cs).gr).getD i 0) i cs=pP cash cs (ab cash cs).gr i cs:=by
   have hr:=(rightD_iff.1 hs.right).2.2.2
   have key:∀ n (l:List ClR),l.length=n→(∀ c∈l,c∈cs)→pP cash cs (fun i=>((ahi cash.length).map (ab cash cs).gr).getD i 0) i l=pP cash cs (ab cash cs).gr i l:=by
    intro n
    induction n with
    | zero=>intro l hl _;rw[List.length_eq_zero_iff.1 hl];rfl
    | succ n ih =>
     intro l hl hm;rcases ahu l with h0 | ⟨m,c,rfl⟩
     ·subst h0;cases hl
     ·rw[ahv] at *
      simp only[ahn,aho] at hl;have hc:=hr c (hm c (by simp));rw[l9,l9,ih m (by omega) fun y hy=>hm y (by simp [hy])]
      unfold o8;have:((ahi cash.length).map (ab cash cs).gr).getD c.1.toNat 0=(ab cash cs).gr c.1.toNat:=j0 (ab cash cs).gr 0 (show c.1.toNat<cash.length by omega);simp only[this]
   exact key _ cs rfl fun c hc=>hc
  rw[hcs,hx]
  show _=some ((fL cash.length (ab cash cs).gr).getD i 0);rw[j0 (ab cash cs).gr 0 hi]
end
end Go.Mini
