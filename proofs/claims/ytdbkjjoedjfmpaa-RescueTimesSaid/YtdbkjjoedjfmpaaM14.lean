/- A part of the proof. -/
import Derived.Test.YtdbkjjoedjfmpaaM13
import Derived.Test.YtdbkjjoedjfmpaaM11
import Derived.Test.YtdbkjjoedjfmpaaM12
set_option linter.unusedSimpArgs false
set_option linter.unusedVariables false
open Nat renaming le_refl → agO, sub_self → agS, le_trans → ag7, mul_one → ahh, reduceEqDiff → ahk, zero_le → ahE
open List renaming range → agP, getD_eq_getElem?_getD → agQ, getElem?_append_right → agR, filter_congr → agT, getElem?_append_left → agU, length_append → agV, length_singleton → agW, filter_append → agX, filter_cons_of_pos → agY, filter_nil → agZ, filter_cons_of_neg → ag0, append_nil → ag1, eq_nil_or_concat → ag2, concat_eq_append → ag3, map_congr_left → ag4, map_append → ag5, length_map → ag6, length_filter_le → ag8, length_range → ag9, take_zero → aha, getElem?_eq_getElem → ahd, mem_of_getElem? → ahe, take_add_one → ahf, length_take → ahg, getElem?_map → ahi, take_of_length_le → ahj, take_length → ahm, foldl_append → ahp, mem_map_of_mem → ahr, map_nil → ahs, drop_succ_cons → ahy, map_cons → ahz, drop_zero → ahA, mapM_cons → ahB, length_cons → ahC, map_map → ahD, getElem?_eq_none → ahI, all_eq_true → ahL, length → ahN, mem_cons_self → ahP, mem_cons_of_mem → ahQ
open Bool renaming false_eq_true → ahb, not_true → aho, and_eq_true → ahv, not_false → ahJ, not_eq_true' → ahK, true_and → ahM
open Decidable renaming em → ahc
open Option renaming map_some → ahl, bind_some → aht, bind_none → ahF, getD_none → ahR
open Int renaming toNat_natCast → ahn, reduceLE → ahG, reduceToNat → ahH, max_def → ahS, add_zero → ahT
open Rat renaming add_zero → ahq, intCast_natCast → ahu, intCast_add → ahw, intCast_mul → ahx, zero_add → ahO
namespace Go.Mini
open Go
set_option maxRecDepth 10000
set_option maxHeartbeats 4000000
theorem sC {kx gx n:Nat} (key:Nat→Nat) (q':Nat→MV) (hkx:∀ i,i<n→key i≠kx) (hkk:∀ i j,i<n→j<n→key i=key j→i=j):∀ r d (q:Nat→MV) (m:Mem),d+r=n→m kx=some (gx,fL n q)→(∀ i,i<d→q i=q' i) →
  (∀ i,d≤i→i<n→q i=q' i∨∃ g sz len cs x,q i = .ref (key i) g sz 0 len∧m (key i)=some (g,cs)∧(∀ m2:Mem,m2 (key i)=some (g,cs)→toD 1 m2 (.ref (key i) g sz 0 len)=some x)∧q' i = .dat x) →
  ∃ m',Moves m m'∧m' kx=some (gx,fL n q')∧∀ k:Nat,k≠kx→(∀ i,i<n→k≠key i)→m' k=m k
 | 0,d,q,m,hd,h1,h2,_=>⟨m,.refl m,by rw[h1,bK fun i hi=>h2 i (by omega)],fun _ _ _=>rfl⟩
 | r+1,d,q,m,hd,h1,h2,h3=>by
  rcases h3 d (agO _) (by omega) with he | ⟨g,sz,len,cs,x,e1,e2,e3,e4⟩
  ·obtain⟨m',k1,k2,k3⟩:=sC key q' hkx hkk r (d+1) q m (by omega) h1 (fun i hi=>by
    by_cases hid:i=d
    ·rw[hid];exact he
    ·exact h2 i (by omega)) fun i hi hin=>h3 i (by omega) hin
   exact⟨m',k1,k2,k3⟩
  ·have hdn:d<n:=by omega
   have hget:(fL n q)[d]?=some (.ref (key d) g sz 0 len):=by rw[cR q hdn,e1]
   have hstep:=MoveS.mfrz kx gx _ d (key d) g sz 0 len cs x h1 hget e2 (hkx d hdn) (e3 m e2);have hnew:aA (kill m (key d)) kx gx ((fL n q).set d (.dat x)) kx=some (gx,fL n fun j=>if j=d then .dat x else q j):=by rw[cf,nr]
   obtain⟨m',k1,k2,k3⟩:=sC key q' hkx hkk r (d+1) (fun j=>if j=d then .dat x else q j) _ (by omega) hnew (fun i hi=>by
    by_cases hid:i=d
    ·rw[if_pos hid,hid,e4]
    ·rw[if_neg hid];exact h2 i (by omega)) fun i hi hin=>by
     rw[if_neg (by omega)];rcases h3 i (by omega) hin with he | ⟨g',sz',len',cs',x',f1,f2,f3,f4⟩
     ·exact .inl he
     ·refine .inr ⟨g',sz',len',cs',x',f1,?_,f3,f4⟩
      rw[aF (hkx i hin)];unfold kill;rw[aF fun hh=>by have:=hkk i d hin hdn hh;omega]
      exact f2
   refine⟨m',.step hstep k1,k2,fun k hk hki=>?_⟩
   rw[k3 k hk hki,aF hk];unfold kill;rw[aF (hki d hdn)]
def plc (l:List ClR) (i:Nat):List Nat:=(agP l.length).filter fun j=>(l.getD j zC).1==(i:Int)
theorem yH (l:List ClR) (c:ClR) (i:Nat):plc (l++[c]) i=if c.1=(i:Int) then plc l i++[l.length] else plc l i:=by
 unfold plc;have e1:(l++[c]).getD l.length zC=c:=by rw[agQ,agR (agO _),agS];rfl
 have e2:(agP l.length).filter (fun j=>((l++[c]).getD j zC).1==(i:Int))=(agP l.length).filter fun j=>(l.getD j zC).1==(i:Int):=agT fun j hj=>by
  rw[agQ,agU (List.mem_range.1 hj),←agQ]
 rw[agV,agW,List.range_succ,agX,e2]
 by_cases h:c.1=(i:Int)
 ·rw[if_pos h,agY (by rw[e1];simpa using h),agZ]
 ·rw[if_neg h,ag0 (by rw[e1];simpa using h),agZ,ag1]
theorem plc_mem {l:List ClR} {i j:Nat}:j∈plc l i↔j<l.length∧(l.getD j zC).1=(i:Int):=by
 unfold plc;rw[List.mem_filter,List.mem_range,beq_iff_eq]
theorem xJ (l:List ClR) (c:ClR) (i:Nat):bU (l++[c]) i=if c.1=(i:Int) then bU l i++[c] else bU l i:=by
 unfold bU;rw[agX]
 by_cases h:c.1=(i:Int)
 ·rw[if_pos h,agY (by simpa using h),agZ]
 ·rw[if_neg h,ag0 (by simpa using h),agZ,ag1]
theorem DN (l:List ClR) (i:Nat):bU l i=(plc l i).map fun j=>l.getD j zC:=by
 have:∀ n (l:List ClR),l.length=n→bU l i=(plc l i).map fun j=>l.getD j zC:=by
  intro n
  induction n with
  | zero =>
   intro l hl;have:l=[]:=List.length_eq_zero_iff.1 hl;subst this;rfl
  | succ n ih =>
   intro l hl;rcases ag2 l with h0 | ⟨l',c,rfl⟩
   ·subst h0;cases hl
   ·rw[ag3] at *
    simp only[agV,agW] at hl;have e1:(l'++[c]).getD l'.length zC=c:=by rw[agQ,agR (agO _),agS];rfl
    have e2:(plc l' i).map (fun j=>(l'++[c]).getD j zC)=(plc l' i).map fun j=>l'.getD j zC:=ag4 fun j hj=>by
     rw[agQ,agU (plc_mem.1 hj).1,←agQ]
    rw[xJ,yH]
    by_cases h:c.1=(i:Int)
    ·rw[if_pos h,if_pos h,ag5,e2,ih l' (by omega)]
     show _=_++[(l'++[c]).getD l'.length zC];rw[e1]
    ·rw[if_neg h,if_neg h,e2,ih l' (by omega)]
 exact this _ l rfl
theorem sL (l:List ClR) (i:Nat):(plc l i).length=(bU l i).length:=by rw[DN,ag6]
theorem OZ (l:List ClR) (i:Nat):(plc l i).length≤l.length:=by
 unfold plc;exact ag7 (ag8 _ _) (by rw[ag9];exact agO _)
def pc (l:List ClR) (gc:Nat→Nat) (i:Nat):MV:=if bU l i=[] then .nil else .ref (233600+i) (gc i) 4 0 (bU l i).length
def pp (l:List ClR) (gp:Nat→Nat) (i:Nat):MV:=if bU l i=[] then .nil else .ref (233700+i) (gp i) 1 0 (bU l i).length
structure PyAt (n:Nat) (l:List ClR) (gc gp:Nat→Nat) (m:Mem):Prop where
 r1:m 233019=some (0,fL n (pc l gc))
 r2:m 233022=some (0,fL n (pp l gp))
 k1:∀ i,i<n→bU l i≠[]→m (233600+i)=some (gc i,ay clL (bU l i))
 k2:∀ i,i<n→bU l i≠[]→m (233700+i)=some (gp i,ay gS (plc l i))
theorem PyAt.next {n:Nat} {l:List ClR} {gc gp:Nat→Nat} {m m':Mem} (h:PyAt n l gc gp m) (hn:n≤5) {c1:Nat} {c2 c3 c4:Int} (g1 g2:Nat)
  (h1:m' 233019=some (0,fL n fun i=>if i=c1 then .ref (233600+c1) g1 4 0 ((bU l c1).length+1) else pc l gc i)) (h2:m' 233022=some (0,fL n fun i=>if i=c1 then .ref (233700+c1) g2 1 0 ((bU l c1).length+1) else pp l gp i))
  (h3:m' (233600+c1)=some (g1,ay clL (bU l c1++[((c1:Int),c2,c3,c4)]))) (h4:m' (233700+c1)=some (g2,ay gS (plc l c1++[l.length])))
  (ho:∀ i,i<n→i≠c1→m' (233600+i)=m (233600+i)∧m' (233700+i)=m (233700+i)):PyAt n (l++[((c1:Int),c2,c3,c4)]) (fun i=>if i=c1 then g1 else gc i) (fun i=>if i=c1 then g2 else gp i) m':=by
 have eo:∀ i:Nat,i≠c1→bU (l++[((c1:Int),c2,c3,c4)]) i=bU l i:=fun i hi=>by rw[xJ,if_neg (by show ¬ ((c1:Int)=(i:Int));omega)]
 have ep:∀ i:Nat,i≠c1→plc (l++[((c1:Int),c2,c3,c4)]) i=plc l i:=fun i hi=>by rw[yH,if_neg (by show ¬ ((c1:Int)=(i:Int));omega)]
 have so:bU (l++[((c1:Int),c2,c3,c4)]) c1=bU l c1++[((c1:Int),c2,c3,c4)]:=by rw[xJ,if_pos rfl]
 have sp:plc (l++[((c1:Int),c2,c3,c4)]) c1=plc l c1++[l.length]:=by rw[yH,if_pos rfl]
 refine⟨?_,?_,fun i hi hne=>?_,fun i hi hne=>?_⟩
 ·rw[h1]
  congr 2
  refine bK fun i hi=>?_
  unfold pc
  by_cases hc:i=c1
  ·subst hc
   rw[so,if_pos rfl,if_neg (by simp),agV];dsimp only;rw[if_pos rfl];rfl
  ·rw[eo i hc,if_neg hc]
   dsimp only;rw[if_neg hc]
 ·rw[h2]
  congr 2
  refine bK fun i hi=>?_
  unfold pp
  by_cases hc:i=c1
  ·subst hc
   rw[so,if_pos rfl,if_neg (by simp),agV];dsimp only;rw[if_pos rfl];rfl
  ·rw[eo i hc,if_neg hc]
   dsimp only;rw[if_neg hc]
 ·by_cases hc:i=c1
  ·subst hc
   rw[if_pos rfl,so];exact h3
  ·rw[eo i hc] at hne ⊢
   rw[if_neg hc,(ho i hi hc).1];exact h.k1 i hi hne
 ·by_cases hc:i=c1
  ·subst hc
   rw[if_pos rfl,sp];exact h4
  ·rw[eo i hc] at hne
   rw[ep i hc,if_neg hc,(ho i hi hc).2];exact h.k2 i hi hne
structure zN (cs:List ClR) (h:List Rat):Prop where
 len:cs.length≤12
 n:h.length≤5
 c:∀ c∈cs,0≤c.1∧c.1<h.length ∧ -1≤c.2.1∧c.2.1<60∧0≤c.2.2.1∧c.2.2.1<10∧0≤c.2.2.2∧c.2.2.2≤33554432
 x:∀ x∈h,0≤x∧szR 460 x
theorem CN {K:St→Prop} {tm:Nat→MV} {mem mem1 mem':Mem} (h:MoveS mem mem1) (h2:MoveS mem1 mem') (hK:∀ M,M=mem'→K ⟨tm,M⟩):dP K ⟨tm,mem⟩ .many:=⟨mem',.step h (.step h2 (.refl _)),hK _ rfl⟩
theorem RJ (T:Tab) {K:bH→St→Prop} {kk:List Todo} (cs:List ClR) (h:List Rat) (hp:zN cs h) (v1:MV) (tm:Nat→MV) (m:Mem)
  (e0:tm 0 = .dat (.sl (cs.map clL))) (e1:tm 1=v1) (e6:tm 6 = .ref 233019 0 1 0 h.length) (e7:tm 7 = .ref 233022 0 1 0 h.length) (e23:tm 23 = .dat (.sl (cs.map clL))) (e24:tm 24 = .dat (.int .i64 cs.length)) (e25:tm 25 = .dat (.int .i64 0)) (m57:m 233057=none) (gc gp:Nat→Nat) (hat:PyAt h.length [] gc gp m)
  (hK:∀ tm' m' gc' gp',tm' 0 = .dat (.sl (cs.map clL))→tm' 1=v1→tm' 6 = .ref 233019 0 1 0 h.length→tm' 7 = .ref 233022 0 1 0 h.length→m' 233057=none→PyAt h.length cs gc' gp' m'→kont T K kk (.exit 0) ⟨tm',m'⟩) :
  wp T (mf_clear_payments.body.sub [1,1,1,0,1,0]) (kont T K kk) ⟨tm,m⟩:=by
 simp only[mf_clear_payments,MCode.sub];have hn:=hp.n;have h12:=hp.len;refine ae [0,1,6,7,23,24] [233057] (fun ((t,gc,gp):Nat × (Nat→Nat) × (Nat→Nat)) tm m=>t≤cs.length∧tm 25 = .dat (.int .i64 t)∧PyAt h.length (cs.take t) gc gp m) (fun (t,_)=>cs.length-t) (0,gc,gp) (by refine⟨by omega,e25,by rw[aha];exact hat⟩) ?_;intro vs ms hvs hms;simp only[go_sem,go_sem_proc,ahb,e0,e1,e6,e7,e23,e24,m57] at hvs hms;subst hvs hms;clear e0 e1 e6 e7 e23 e24 e25 m57 hat tm m;rintro⟨t,gc,gp⟩ tm m hk m57 ⟨ht,e25,hat⟩;simp only[go_sem,go_sem_proc,ahb,List.cons.injEq] at hk m57;obtain⟨e0,e1,e6,e7,e23,e24⟩:=hk;rcases ahc (t<cs.length) with hlt | hge
 ·have d1:decide ((t:Int)<(cs.length:Int))=true:=decide_eq_true (by omega)
  have w3:IntKind.i64.wrap ((t:Int)+1)=((t+1:Nat):Int):=by rw[aj _ (by omega) (by omega)];omega
  obtain⟨⟨c1,c2,c3,c4⟩,hx⟩:∃ c,cs[t]?=some c:=⟨_,ahd hlt⟩;have hrc:=hp.c _ (ahe hx);dsimp only at hrc;obtain⟨c1,rfl⟩:∃ k:Nat,c1=(k:Int):=⟨c1.toNat,by omega⟩
  have htk:cs.take (t+1)=cs.take t++[((c1:Int),c2,c3,c4)]:=by rw[ahf,hx];rfl
  have htl:(cs.take t).length=t:=by rw[ahg];omega
  generalize hl:cs.take t=l at *;have hc1:c1<h.length:=by omega
  have r1:=hat.r1;have r2:=hat.r2;have g1:=ns (cR (pc l gc) hc1);have g2:=ns (cR (pp l gp) hc1);have n1:(fL h.length (pc l gc)).length=h.length:=bT _ _;have n2:(fL h.length (pp l gp)).length=h.length:=bT _ _;have s1:=fun v=>(lw (l:=fL h.length (pc l gc)) (k:=c1) (v:=v) (by rw[bT];exact hc1)).trans (nr (pc l gc) v)
  have s2:=fun v=>(lw (l:=fL h.length (pp l gp)) (k:=c1) (v:=v) (by rw[bT];exact hc1)).trans (nr (pp l gp) v)
  have l1:c1+1≤h.length:=by omega
  have hml:(1≤maxLen)=True:=eq_true (by decide);have hol:(bU l c1).length≤12:=ag7 (ag8 _ _) (by omega);have hpl:=sL l c1;have E1:∀ i,i<h.length→233600+i≠233009∧233600+i≠233019∧233600+i≠233022∧233600+i≠233043∧233600+i≠233051∧233600+i≠233700+c1∧233600+i≠233057:=fun i hi=>by omega
  have E2:∀ i,i<h.length→233700+i≠233009∧233700+i≠233019∧233700+i≠233022∧233700+i≠233043∧233700+i≠233051∧233700+i≠233600+c1∧233700+i≠233057:=fun i hi=>by omega
  by_cases hce:bU l c1=[]
  ·have c1m:pc l gc c1 = .nil:=by unfold pc;rw[if_pos hce]
   have c2m:pp l gp c1 = .nil:=by unfold pp;rw[if_pos hce]
   have hpe:plc l c1=[]:=List.length_eq_zero_iff.1 (by rw[hpl,hce];rfl);rw[c1m] at g1;rw[c2m] at g2;simp only[go_sem,go_sem_proc,ahb,hml,e0,e1,e6,e7,e23,e24,e25,hx,r1,r2,g1,g2,n1,n2,s1,s2,d1,l1,hc1,clL,ahh,ag6,ahi];obtain⟨f11,f12,f13,f14,f15,f16,f17⟩:=E1 c1 hc1;obtain⟨f21,f22,f23,f24,f25,f26,f27⟩:=E2 c1 hc1
   refine CN (MoveS.mref 233019 0 _ c1 233043 (cL (m 233043)) 4 0 1 _ (233600+c1) ((aF (by decide)).trans cf) ((cR _ hc1).trans (by rw[if_pos rfl])) ((aF (by decide)).trans ((aF (by decide)).trans ((aF (by decide)).trans cf))) (by decide) f14 f12)
    (MoveS.mref 233022 0 _ c1 233051 (cL (m 233051)) 1 0 1 _ (233700+c1) ((aF (by decide)).trans ((aF (Ne.symm f13)).trans ((aF (by decide)).trans cf))) ((cR _ hc1).trans (by rw[if_pos rfl])) ((aF (by decide)).trans ((aF (Ne.symm f15)).trans ((aF (by decide)).trans ((aF (by decide)).trans ((aF (by decide)).trans cf))))) (by decide) f25 f23) ?_
   intro M2 hM2
   have hMo:∀ k:Nat,k≠233009→k≠233019→k≠233022→k≠233043→k≠233051→k≠233600+c1→k≠233700+c1→M2 k=m k:=fun k h9 h19 h22 h43 h51 h36 h37=>by
    rw[hM2,aF h22,aF h37,aF h51,aF h19,aF h36,aF h43,aF h22,aF h19,aF h51,aF h43,aF h9,aF h9]
   obtain⟨ga,hA1,hA2⟩:∃ ga,M2 233019=some (0,fL h.length fun i=>if i=c1 then .ref (233600+c1) ga 4 0 ((bU l c1).length+1) else pc l gc i)∧M2 (233600+c1)=some (ga,ay clL (bU l c1++[((c1:Int),c2,c3,c4)])):=by
    rw[hce];apply Exists.intro;apply And.intro
    rotate_left
    ·rw[hM2,aF f13,aF f16,aF f15,aF f12,cf];rfl
    ·rw[hM2,aF (by decide),aF (Ne.symm f22),aF (by decide),cf,nr]
     congr 2
     refine bK fun i _=>?_
     by_cases hi:i=c1
     ·rw[if_pos hi,if_pos hi];rfl
     ·rw[if_neg hi,if_neg hi,if_neg hi]
   obtain⟨gb,hB1,hB2⟩:∃ gb,M2 233022=some (0,fL h.length fun i=>if i=c1 then .ref (233700+c1) gb 1 0 ((bU l c1).length+1) else pp l gp i)∧M2 (233700+c1)=some (gb,ay gS (plc l c1++[l.length])):=by
    rw[hce,hpe,htl];apply Exists.intro;apply And.intro
    rotate_left
    ·rw[hM2,aF f23,cf];rfl
    ·rw[hM2,cf,nr]
     congr 2
     refine bK fun i _=>?_
     by_cases hi:i=c1
     ·rw[if_pos hi,if_pos hi];rfl
     ·rw[if_neg hi,if_neg hi,if_neg hi]
   have hfin:=hat.next (m':=M2) hn ga gb hA1 hB1 hA2 hB2 fun i hi hne=>⟨by
    obtain⟨a1,a2,a3,a4,a5,a6,-⟩:=E1 i hi;exact hMo _ a1 a2 a3 a4 a5 (by omega) a6,by
    obtain⟨a1,a2,a3,a4,a5,a6,-⟩:=E2 i hi;exact hMo _ a1 a2 a3 a4 a5 a6 (by omega)⟩
   have hM57:M2 233057=none:=(hMo 233057 (by decide) (by decide) (by decide) (by decide) (by decide) (Ne.symm f17) (Ne.symm f27)).trans m57;clear hM2 hMo hA1 hA2 hB1 hB2;simp only[go_sem,go_sem_proc,ahb,e0,e1,e6,e7,e23,e24,e25,w3,hM57]
   repeat' (first|refine qS ?_ ?_|fail)<;>intro h<;>simp only[h,go_sem,go_sem_proc,ahb,e0,e1,e6,e7,e23,e24,e25,w3,hM57]
   exact⟨(t+1,_,_),by dsimp only;omega,by dsimp only;omega,rfl,by rw[htk];exact hfin⟩
  ·have c1m:pc l gc c1 = .ref (233600+c1) (gc c1) 4 0 (bU l c1).length:=by unfold pc;rw[if_neg hce]
   have c2m:pp l gp c1 = .ref (233700+c1) (gp c1) 1 0 (plc l c1).length:=by unfold pp;rw[if_neg hce,hpl]
   rw[c1m] at g1;rw[c2m] at g2;have k1:=hat.k1 c1 hc1 hce;have k2:=hat.k2 c1 hc1 hce;have ha1:=dk kh sD (233600+c1) (gc c1) 32 (bU l c1) ((c1:Int),c2,c3,c4) (cs:=[.dat (.int .i64 c1),.dat (.int .i64 c2),.dat (.int .i64 c3),.dat (.int .i64 c4)]) rfl (by omega) (by omega);have ha2:=dk ik AZ (233700+c1) (gp c1) 8 (plc l c1) l.length (cs:=[.dat (.int .i64 t)]) (by rw[htl];rfl) (by omega) (by omega);obtain⟨f11,f12,f13,f14,f15,f16,f17⟩:=E1 c1 hc1;obtain⟨f21,f22,f23,f24,f25,f26,f27⟩:=E2 c1 hc1;have hKa:(233600+c1)=233600+c1:=rfl;generalize hA:233600+c1=A at *;generalize hB:233700+c1=B at *;have hAB:A≠B:=f16;have q1:(A==233009)=false:=beq_eq_false_iff_ne.2 f11;have q1':(233009==A)=false:=beq_eq_false_iff_ne.2 (Ne.symm f11);have q2:(A==233019)=false:=beq_eq_false_iff_ne.2 f12;have q2':(233019==A)=false:=beq_eq_false_iff_ne.2 (Ne.symm f12);have q3:(A==233022)=false:=beq_eq_false_iff_ne.2 f13;have q3':(233022==A)=false:=beq_eq_false_iff_ne.2 (Ne.symm f13);have q4:(A==233043)=false:=beq_eq_false_iff_ne.2 f14;have q4':(233043==A)=false:=beq_eq_false_iff_ne.2 (Ne.symm f14);have q5:(A==233051)=false:=beq_eq_false_iff_ne.2 f15;have q5':(233051==A)=false:=beq_eq_false_iff_ne.2 (Ne.symm f15);have q6:(A==B)=false:=beq_eq_false_iff_ne.2 hAB;have q6':(B==A)=false:=beq_eq_false_iff_ne.2 (Ne.symm hAB);have p1:(B==233009)=false:=beq_eq_false_iff_ne.2 f21;have p1':(233009==B)=false:=beq_eq_false_iff_ne.2 (Ne.symm f21);have p2:(B==233019)=false:=beq_eq_false_iff_ne.2 f22;have p2':(233019==B)=false:=beq_eq_false_iff_ne.2 (Ne.symm f22);have p3:(B==233022)=false:=beq_eq_false_iff_ne.2 f23;have p3':(233022==B)=false:=beq_eq_false_iff_ne.2 (Ne.symm f23);have p4:(B==233043)=false:=beq_eq_false_iff_ne.2 f24;have p4':(233043==B)=false:=beq_eq_false_iff_ne.2 (Ne.symm f24);have p5:(B==233051)=false:=beq_eq_false_iff_ne.2 f25;have p5':(233051==B)=false:=beq_eq_false_iff_ne.2 (Ne.symm f25);have x1:(A=233009)=False:=eq_false f11;have x2:(B=233009)=False:=eq_false f21;have x3:(B=A)=False:=eq_false (Ne.symm hAB);have x4:(233019=A)=False:=eq_false (Ne.symm f12);have x5:(233019=B)=False:=eq_false (Ne.symm f22);have x6:(233022=A)=False:=eq_false (Ne.symm f13);have x7:(233022=B)=False:=eq_false (Ne.symm f23);have x8:(233009=A)=False:=eq_false (Ne.symm f11);have x9:(233009=B)=False:=eq_false (Ne.symm f21);have x10:(A=B)=False:=eq_false hAB;simp only[go_sem,go_sem_proc,ahb,hml,e0,e1,e6,e7,e23,e24,e25,hx,r1,r2,g1,g2,n1,n2,s1,s2,d1,l1,hc1,k1,k2,ha1,ha2,q1,q1',q2,q2',q3,q3',q4,q4',q5,q5',q6,q6',p1,p1',p2,p2',p3,p3',p4,p4',p5,p5',x1,x2,x3,x4,x5,x6,x7,x8,x9,x10,clL,ahh,ag6,ahi];refine rC ?_;intro M2 hM2
   have hMo:∀ k:Nat,k≠233009→k≠233019→k≠233022→k≠A→k≠B→M2 k=m k:=fun k h9 h19 h22 hA hB=>by
    rw[hM2,aF h22,aF h19,aF hB,aF hA,aF h9,aF h9]
   have hA1:M2 233019=some (0,fL h.length fun i=>if i=c1 then .ref A (gc c1+1) 4 0 ((bU l c1).length+1) else pc l gc i):=by
    rw[hM2,aF (by decide),cf]
   have hA2:M2 A=some (gc c1+1,ay clL (bU l c1++[((c1:Int),c2,c3,c4)])):=by
    rw[hM2,aF f13,aF f12,aF hAB,cf]
   have hB1:M2 233022=some (0,fL h.length fun i=>if i=c1 then .ref B (gp c1+1) 1 0 ((bU l c1).length+1) else pp l gp i):=by
    rw[hM2,cf,hpl]
   have hB2:M2 B=some (gp c1+1,ay gS (plc l c1++[l.length])):=by
    rw[hM2,aF f23,aF f22,cf]
   have hfin:=hat.next (m':=M2) hn (c2:=c2) (c3:=c3) (c4:=c4) (gc c1+1) (gp c1+1) (by rw[hA];exact hA1) (by rw[hB];exact hB1) (by rw[hA];exact hA2) (by rw[hB];exact hB2) fun i hi hne=>⟨by
    obtain⟨a1,a2,a3,a4,a5,a6,-⟩:=E1 i hi;exact hMo _ a1 a2 a3 (by omega) a6,by
    obtain⟨a1,a2,a3,a4,a5,a6,-⟩:=E2 i hi;exact hMo _ a1 a2 a3 a6 (by omega)⟩
   have hM57:M2 233057=none:=(hMo 233057 (by decide) (by decide) (by decide) (Ne.symm f17) (Ne.symm f27)).trans m57;clear hM2 hMo hA1 hA2 hB1 hB2;simp only[go_sem,go_sem_proc,ahb,e0,e1,e6,e7,e23,e24,e25,w3,hM57]
   repeat' (first|refine qS ?_ ?_|fail)<;>intro h<;>simp only[h,go_sem,go_sem_proc,ahb,e0,e1,e6,e7,e23,e24,e25,w3,hM57]
   exact⟨(t+1,_,_),by dsimp only;omega,by dsimp only;omega,rfl,by rw[htk];exact hfin⟩
 ·have d1:decide ((t:Int)<(cs.length:Int))=false:=decide_eq_false (by omega)
  rw[ahj (by omega)] at hat;simp only[go_sem,go_sem_proc,ahb,e0,e1,e6,e7,e23,e24,e25,d1]
  repeat' (first|refine qS ?_ ?_|fail)<;>intro h<;>simp only[h,go_sem,go_sem_proc,ahb,e0,e1,e6,e7,e23,e24,e25,d1]
  refine hK _ _ gc gp ?_ ?_ ?_ ?_ m57 hat<;>simp only[aH,ahk,if_false,e0,e1,e6,e7]
def plM (l:List Nat):MV:=if l=[] then .nil else .dat (.sl (l.map gS))
theorem Mw (l:List Nat):oO (plM l)=some l.length:=by
 unfold plM
 split
 ·rename_i h;rw[h];rfl
 ·simp [oO]
theorem L1 {l:List Nat} {n y:Nat} (h:l[n]?=some y):xn 1 n (plM l)=some (.dat (.ptr (gS y))):=by
 unfold plM
 split
 ·rename_i hl;rw[hl] at h;cases h
 ·simp only[xn,ahi,h,ahl]
  rfl
theorem Mc (l:List ClR) (n:Nat) (m:Mem):toD n m (clM l)=some (.sl (l.map clL)):=by
 unfold clM
 split
 ·rename_i h;rw[h];exact Lf n
 ·exact sH n _
noncomputable def pyE (cs:List ClR) (h:List Rat) (j:Nat):aU:=ak (fP cs (h.getD (cs.getD j zC).1.toNat 0) (cs.getD j zC))
noncomputable def pyQ (cs:List ClR) (h:List Rat) (i t j:Nat):Option aU:=if (cs.getD j zC).1<(i:Int)∨((cs.getD j zC).1=(i:Int)∧j∈(plc cs i).take t) then some (pyE cs h j) else none
theorem Lh (cs:List ClR) (h:List Rat) (i:Nat):(fL cs.length fun j=>pyQ cs h i (plc cs i).length j)=fL cs.length fun j=>pyQ cs h (i+1) 0 j:=bK fun j hj=>by
 unfold pyQ;rw[ahm,aha];have hm:=plc_mem (l:=cs) (i:=i) (j:=j)
 by_cases h1:(cs.getD j zC).1<(i:Int)
 ·rw[if_pos (.inl h1),if_pos (.inl (by omega))]
 ·by_cases h2:(cs.getD j zC).1=(i:Int)
  ·rw[if_pos (.inr ⟨h2,hm.2 ⟨hj,h2⟩⟩),if_pos (.inl (by omega))]
  ·rw[if_neg (fun hh=>hh.elim h1 fun x=>h2 x.1),if_neg (fun hh=>hh.elim (by omega) fun x=>by simpa using x.2)]
theorem Kz (cs:List ClR) (h:List Rat) (hp:zN cs h):(fL cs.length fun j=>pyQ cs h 0 0 j)=fL cs.length fun _=>none:=bK fun j hj=>by
 have:=(hp.c _ (ahe (ahd hj))).1;have e:cs.getD j zC=cs[j]:=by rw[agQ,ahd hj];rfl
 unfold pyQ;rw[e,aha,if_neg (fun hh=>hh.elim (by omega) fun x=>by simpa using x.2)]
theorem Ow (cs:List ClR) (h:List Rat) (hp:zN cs h):(fL cs.length fun j=>pyQ cs h h.length 0 j)=(cs.map fun c=>ak (fP cs (h.getD c.1.toNat 0) c)).map some:=by
 refine (Ed (by simp) fun j hj=>?_).symm;have:=(hp.c _ (ahe (ahd hj))).2.1;have e:cs.getD j zC=cs[j]:=by rw[agQ,ahd hj];rfl
 unfold pyQ;rw[ahi,ahi,ahd hj,e,if_pos (.inl this)];unfold pyE;rw[e];rfl
theorem Rf (T:Tab) {K:bH→St→Prop} {kk:List Todo} (cs:List ClR) (h:List Rat) (hp:zN cs h) (i:Nat) (hi:i<h.length) (v1 v7 v58 v59 v60:MV) (x19 x22:Option (Nat × List MV)) (tm:Nat→MV) (m:Mem)
  (e1:tm 1=v1) (e7:tm 7=v7) (e10:tm 10 = .ref 233057 0 4 0 cs.length) (e13:tm 13 = .dat (.sl (((bU cs i).map fun c=>ak (fP cs (h.getD i 0) c)).map ad))) (e58:tm 58=v58) (e59:tm 59=v59) (e60:tm 60=v60) (e79:tm 79=plM (plc cs i)) (e80:tm 80 = .dat (.int .i64 (plc cs i).length)) (e81:tm 81 = .dat (.int .i64 0)) (m19:m 233019=x19) (m22:m 233022=x22) (m57:m 233057=some (0,ko oP (fL cs.length fun j=>pyQ cs h i 0 j)))
  (hK:∀ tm' m',tm' 1=v1→tm' 7=v7→tm' 10 = .ref 233057 0 4 0 cs.length→tm' 58=v58→tm' 59=v59→tm' 60=v60→m' 233019=x19→m' 233022=x22→m' 233057=some (0,ko oP (fL cs.length fun j=>pyQ cs h (i+1) 0 j))→kont T K kk (.exit 4) ⟨tm',m'⟩) :
  wp T (mf_clear_payments.body.sub [1,1,1,1,1,0,1,0,0,1,1,0,0,1,1,1,1,0]) (kont T K kk) ⟨tm,m⟩:=by
 simp only[mf_clear_payments,MCode.sub];have h12:=hp.len;have hpl:=OZ cs i;refine ae [1,7,10,13,58,59,60,79,80] [233019,233022] (fun (k:Nat) tm m=>k≤(plc cs i).length∧tm 81 = .dat (.int .i64 k)∧m 233057=some (0,ko oP (fL cs.length fun j=>pyQ cs h i k j))) (fun k=>(plc cs i).length-k) 0 (by refine⟨by omega,e81,m57⟩) ?_;intro vs ms hvs hms;simp only[go_sem,go_sem_proc,ahb,e1,e7,e10,e13,e58,e59,e60,e79,e80,m19,m22] at hvs hms;subst hvs hms;clear e1 e7 e10 e13 e58 e59 e60 e79 e80 e81 m19 m22 m57 tm m;rintro k tm m hk hm ⟨hkl,e81,m57⟩;simp only[go_sem,go_sem_proc,ahb,List.cons.injEq] at hk hm;obtain⟨e1,e7,e10,e13,e58,e59,e60,e79,e80⟩:=hk;obtain⟨m19,m22⟩:=hm;rcases ahc (k<(plc cs i).length) with hlt | hge
 ·have d1:decide ((k:Int)<((plc cs i).length:Int))=true:=decide_eq_true (by omega)
  have w3:IntKind.i64.wrap ((k:Int)+1)=((k+1:Nat):Int):=by rw[aj _ (by omega) (by omega)];omega
  obtain⟨y,hy⟩:∃ y,(plc cs i)[k]?=some y:=⟨_,ahd hlt⟩;obtain⟨hyl,hyi⟩:=plc_mem.1 (ahe hy);have hia:=L1 hy;simp only[go_sem,go_sem_proc,ahb,ahh] at hia
  have hog:((bU cs i).map fun c=>ak (fP cs (h.getD i 0) c))[k]?=some (pyE cs h y):=by
   rw[DN,ahi,ahi,hy];unfold pyE;rw[hyi,ahn];rfl
  have hlen4:=Cd (q:=fun j=>pyQ cs h i k j) hyl;have hset:=fun a b c d=>Dx (q:=fun j=>pyQ cs h i k j) hyl a b c d
  have hnx:∀ F:aU,F=pyE cs h y→(fL cs.length fun j=>if j=y then some F else pyQ cs h i k j)=fL cs.length fun j=>pyQ cs h i (k+1) j:=fun F hF=>bK fun j _=>by
   have htk:(plc cs i).take (k+1)=(plc cs i).take k++[y]:=by rw[ahf,hy];rfl
   by_cases hj:j=y
   ·subst hj
    rw[if_pos rfl];unfold pyQ;rw[htk,if_pos (.inr ⟨hyi,by simp⟩),hF]
   ·rw[if_neg hj]
    unfold pyQ;rw[htk]
    by_cases h1:(cs.getD j zC).1<(i:Int)∨((cs.getD j zC).1=(i:Int)∧j∈(plc cs i).take k)
    ·rw[if_pos h1,if_pos (h1.imp id fun x=>⟨x.1,by simp [x.2]⟩)]
    ·rw[if_neg h1,if_neg fun hh=>h1 (hh.imp id fun x=>⟨x.1,by simpa [hj] using x.2⟩)]
  have hn:=hnx _ rfl;clear hK;generalize ((bU cs i).map fun c=>ak (fP cs (h.getD i 0) c))=PD at *;generalize pyE cs h y=F at *;obtain⟨⟨a1,a2⟩,⟨a3,a4⟩⟩:=F;have hst:=hset a1 a2 a3 a4;rw[hn] at hst;simp only[go_sem,go_sem_proc,ahb,e1,e7,e10,e13,e58,e59,e60,e79,e80,e81,m19,m22,m57,d1,w3,hia,hog,hlen4,hst,hyl,gS,ad,ahh,ag6,ahi]
  repeat' (first|refine qS ?_ ?_|fail)<;>intro h<;>simp only[h,go_sem,go_sem_proc,ahb,e1,e7,e10,e13,e58,e59,e60,e79,e80,e81,m19,m22,m57,d1,w3,hia,hog,hlen4,hst,hyl,gS,ad,ahh,ag6,ahi]
  exact⟨k+1,by omega,by omega,rfl,rfl⟩
 ·have d1:decide ((k:Int)<((plc cs i).length:Int))=false:=decide_eq_false (by omega)
  obtain rfl:k=(plc cs i).length:=by omega
  rw[Lh] at m57;simp only[go_sem,go_sem_proc,ahb,e1,e7,e10,e13,e58,e59,e60,e79,e80,e81,d1]
  repeat' (first|refine qS ?_ ?_|fail)<;>intro h<;>simp only[h,go_sem,go_sem_proc,ahb,e1,e7,e10,e13,e58,e59,e60,e79,e80,e81,d1]
  refine hK _ _ ?_ ?_ ?_ ?_ ?_ ?_ m19 m22 m57<;>simp only[aH,ahk,if_false,e1,e7,e10,e58,e59,e60]
theorem nrow (n:Nat):(List.replicate n [MV.nil]).flatten=fL n fun _ => .nil:=by
 induction n with
 | zero=>rfl
 | succ n ih=>rw[List.replicate_succ',List.flatten_append,ih,EX];rfl
theorem Jy {a b:List Rat} (h:(a.map ak).map ad=(b.map ak).map ad):a=b:=af (fun _ _ h=>uR h) _ _ (af eX _ _ h)
noncomputable def sF:List Data→Option PRes:=FF (α:=(List ClR) × (List Rat)) (fun (cs,h)=>([.sl (cs.map clL),.sl ((h.map ak).map ad)]:List Data)) (fun (cs,h)=>aG (zN cs h) (.same (.tup [.sl ((cs.map fun c=>ak (fP cs (h.getD c.1.toNat 0) c)).map ad),.bool true])))
theorem Bn:∀ a b:(List ClR) × (List Rat),(fun (cs,h)=>([.sl (cs.map clL),.sl ((h.map ak).map ad)]:List Data)) a=(fun (cs,h)=>([.sl (cs.map clL),.sl ((h.map ak).map ad)]:List Data)) b→a=b:=by
  rintro⟨cs1,h1⟩ ⟨cs2,h2⟩ h;simp only[List.cons.injEq,Data.sl.injEq,and_true] at h;exact Prod.ext (af fZ _ _ h.1) (Jy h.2)
@[go_sem] theorem Dz (cs:List ClR) (h:List Rat) (hc:zN cs h):sF [.sl (cs.map clL),.sl ((h.map ak).map ad)]=some (.same (.tup [.sl ((cs.map fun c=>ak (fP cs (h.getD c.1.toNat 0) c)).map ad),.bool true])):=(aV Bn (cs,h)).trans (an hc _)
theorem K4 (T:Tab) (fJ:T lM=mkE uP) (cs:List ClR) (h:List Rat) (hc:zN cs h) :
  wp T mf_clear_payments.body (bG mf_clear_payments.res (.same (.tup [.sl ((cs.map fun c=>ak (fP cs (h.getD c.1.toNat 0) c)).map ad),.bool true]))) ⟨ax [.dat (.sl (cs.map clL)),.dat (.sl ((h.map ak).map ad))],emp⟩:=by
 refine ap ?_;simp only[mf_clear_payments];have hn:=hc.n;have h12:=hc.len;have hmk1:(24*h.length≤140737488355328)=True:=eq_true (by omega);have hmk2:(h.length≤maxLen)=True:=eq_true (by unfold maxLen;omega);have hmk3:(64*cs.length≤140737488355328)=True:=eq_true (by omega);have hmk4:(cs.length≤maxLen)=True:=eq_true (by unfold maxLen;omega);have hz:=nrow h.length;have hz2:=xa cs.length;rw[←Kz cs h hc] at hz2;simp only[go_sem,go_sem_proc,ahb,fJ,hmk1,hmk2,hz,ag6];refine RJ T cs h hc (.dat (.sl ((h.map ak).map ad))) _ _ ?_ ?_ ?_ ?_ ?_ ?_ ?_ ?_ (fun _=>0) (fun _=>0) ⟨?_,?_,fun i hi hne=>absurd rfl hne,fun i hi hne=>absurd rfl hne⟩ ?_
 all_goals first | (intro tm m gc gp k0 k1 k6 k7 m57 hat) | (simp only[aH,ahk,if_false,if_true];done) | (simp only[aH,ahk,if_false,if_true];rfl) | (simp only[aA,ahk,if_false,if_true];rfl) | skip
 obtain⟨m1,h1,h2,h3⟩:=sC (fun i=>233600+i) (fun i=>clM (bU cs i)) (fun i hi=>by omega) (fun i j _ _ he=>by omega) h.length 0 (pc cs gc) m (by omega) hat.r1 (fun i hi=>by omega) fun i _ hi=>by
  by_cases hce:bU cs i=[]
  ·refine .inl ?_
   unfold pc clM;rw[if_pos hce,if_pos hce]
  ·refine .inr ⟨gc i,4,(bU cs i).length,ay clL (bU cs i),.sl ((bU cs i).map clL),?_,hat.k1 i hi hce,fun m2 hm2=>eG (n:=0) kh hm2,?_⟩
   ·unfold pc;rw[if_neg hce]
   ·unfold clM;rw[if_neg hce]
 have h22:m1 233022=some (0,fL h.length (pp cs gp)):=(h3 233022 (by decide) fun i hi=>by omega).trans hat.r2;have h57:m1 233057=none:=(h3 233057 (by decide) fun i hi=>by omega).trans m57
 obtain⟨m2,g1,g2,g3⟩:=sC (fun i=>233700+i) (fun i=>plM (plc cs i)) (fun i hi=>by omega) (fun i j _ _ he=>by omega) h.length 0 (pp cs gp) m1 (by omega) h22 (fun i hi=>by omega) fun i _ hi=>by
  by_cases hce:bU cs i=[]
  ·refine .inl ?_
   have hpe:plc cs i=[]:=List.length_eq_zero_iff.1 (by rw[sL,hce];rfl);unfold pp plM;rw[if_pos hce,if_pos hpe]
  ·have hpe:plc cs i≠[]:=fun hh=>hce (List.length_eq_zero_iff.1 (by rw[←sL,hh];rfl))
   refine .inr ⟨gp i,1,(bU cs i).length,ay gS (plc cs i),.sl ((plc cs i).map gS),?_,?_,fun m2 hm2=>by rw[←sL];exact eG (n:=0) ik hm2,?_⟩
   ·unfold pp;rw[if_neg hce]
   ·exact (h3 (233700+i) (by omega) fun j hj=>by omega).trans (hat.k2 i hi hce)
   ·unfold plM;rw[if_neg hpe]
 have q19:m2 233019=some (0,fL h.length fun i=>clM (bU cs i)):=(g3 233019 (by decide) fun i hi=>by omega).trans h2;have q57:m2 233057=none:=(g3 233057 (by decide) fun i hi=>by omega).trans h57;simp only[go_sem,go_sem_proc,ahb,fJ];refine zQ (h1.trans g1) ?_;clear h1 h2 h3 g1 g3 h22 h57 hat m57;simp only[go_sem,go_sem_proc,ahb,fJ,k0,k1,k6,k7,hmk3,hmk4,hz2,q57,ag6];refine ae [1,7,10,58,59] [233019,233022] (fun (i:Nat) tm m=>i≤h.length∧tm 60 = .dat (.int .i64 i)∧m 233057=some (0,ko oP (fL cs.length fun j=>pyQ cs h i 0 j))) (fun i=>h.length-i) 0 (by refine⟨by omega,rfl,by simp [aA]⟩) ?_;intro vs ms hvs hms;simp only[go_sem,go_sem_proc,ahb,fJ,k1,k7,q19,g2,ag6] at hvs hms;subst hvs hms;clear k0 k1 k6 k7 q19 q57 g2 tm m m1 m2;rintro i tm m hk hm ⟨hi,e60,m57⟩;simp only[go_sem,go_sem_proc,ahb,fJ,List.cons.injEq] at hk hm;obtain⟨e1,e7,e10,e58,e59⟩:=hk;obtain⟨m19,m22⟩:=hm;rcases ahc (i<h.length) with hlt | hge
 ·have d1:decide ((i:Int)<(h.length:Int))=true:=decide_eq_true (by omega)
  have w3:IntKind.i64.wrap ((i:Int)+1)=((i+1:Nat):Int):=by rw[aj _ (by omega) (by omega)];omega
  obtain⟨x,hx⟩:∃ x,h[i]?=some x:=⟨_,ahd hlt⟩;have hxd:h.getD i 0=x:=by rw[agQ,hx];rfl
  have hx0:=hc.x x (ahe hx)
  have hown:OwnOK (bU cs i):=⟨ag7 (ag8 _ _) h12,fun c hcm=>by
   have h1:=hc.c c (own_mem.1 hcm).1;omega,fun c hcm c' hcm'=>by rw[(own_mem.1 hcm).2,(own_mem.1 hcm').2]⟩
  have hF:=AA x (bU cs i) ⟨hown,hx0.1,hx0.2⟩;rw[GZ,←hxd] at hF;rw[←hxd] at hx;have r1:=ns (cR (fun i=>clM (bU cs i)) hlt);have r2:=ns (cR (fun i=>plM (plc cs i)) hlt);have n1:(fL h.length fun i=>clM (bU cs i)).length=h.length:=bT _ _;have n2:(fL h.length fun i=>plM (plc cs i)).length=h.length:=bT _ _;have l1:i+1≤h.length:=by omega
  have htd:=Mc (bU cs i) 6;have hpln:=Mw (plc cs i);simp only[go_sem,go_sem_proc,ahb,fJ] at hpln;generalize hX:ak (h.getD i 0)=X at *;obtain⟨⟨a1,a2⟩,⟨a3,a4⟩⟩:=X;simp only[ad] at hF;simp only[go_sem,go_sem_proc,ahb,fJ,fJ,e1,e7,e10,e58,e59,e60,m19,m22,m57,d1,r1,r2,n1,n2,l1,hlt,hx,hX,htd,hF,hpln,ad,ahh,ag6,ahi,bne,beq_self_eq_true,aho];refine Rf T cs h hc i hlt (.dat (.sl ((h.map ak).map ad))) (.ref 233022 0 1 0 h.length) (.ref 233019 0 1 0 h.length) (.dat (.int .i64 h.length)) (.dat (.int .i64 i)) _ _ _ _ ?_ ?_ ?_ ?_ ?_ ?_ ?_ ?_ ?_ ?_ m19 m22 m57 ?_
  all_goals first | (intro tm' m' k1 k7 k10 k58 k59 k60 q19 q22 q57) | (simp only[aH,ahk,if_false,if_true,e1,e7,e10,e58,e59,e60];done)
  simp only[go_sem,go_sem_proc,ahb,fJ,k1,k7,k10,k58,k59,k60,q19,q22,q57,w3]
  repeat' (first|refine qS ?_ ?_|fail)<;>intro h<;>simp only[h,go_sem,go_sem_proc,ahb,fJ,k1,k7,k10,k58,k59,k60,q19,q22,q57,w3]
  exact⟨i+1,by omega,by omega,rfl,rfl⟩
 ·have d1:decide ((i:Int)<(h.length:Int))=false:=decide_eq_false (by omega)
  obtain rfl:i=h.length:=by omega
  rw[Ow cs h hc,zZ] at m57;have hfz:=fun (K:St→Prop) (st:St)=>bO (K:=K) (st:=st) cH 10 233057 0 (cs.map fun c=>ak (fP cs (h.getD c.1.toNat 0) c))
  rw[ag6] at hfz;simp only[go_sem,go_sem_proc,ahb,fJ,e1,e7,e10,e58,e59,e60,d1,m57,hfz,ag6]
  repeat' (first|refine qS ?_ ?_|fail)<;>intro h<;>simp only[h,go_sem,go_sem_proc,ahb,fJ,e1,e7,e10,e58,e59,e60,d1,m57,hfz,ag6]
end Go.Mini
namespace Go.Mini
open Classical
noncomputable def w8 (cs:List ClR) (x:Nat→Rat) (i:Nat) (acc:Option Rat) (c:ClR):Option Rat :=
 if c.2.1=(i:Int) then acc.bind fun s=>if jE s (fP cs (x c.1.toNat) c)=true then some (s+fP cs (x c.1.toNat) c) else none else acc
noncomputable def uU (cash:List Int) (cs:List ClR) (x:Nat→Rat) (i:Nat) (l:List ClR):Option Rat:=l.foldl (w8 cs x i) (some ((cash.getD i 0:Int):Rat))
theorem Jg (cash:List Int) (cs:List ClR) (x:Nat→Rat) (i:Nat):uU cash cs x i []=some ((cash.getD i 0:Int):Rat):=rfl
theorem og (cash:List Int) (cs:List ClR) (x:Nat→Rat) (i:Nat) (l:List ClR) (c:ClR):uU cash cs x i (l++[c])=w8 cs x i (uU cash cs x i l) c:=by
 unfold uU;rw[ahp];rfl
noncomputable def rz (cash:List Int) (cs:List ClR) (x:Nat→Rat) (i:Nat) (l:List ClR):Rat:=((cash.getD i 0:Int):Rat)+sumC (l.map bs) fun c=>if c.to=(i:Int) then (ab cash cs).pay x c else 0
theorem Ht {cash:List Int} {cs:List ClR} (h:cE cash cs=true) (x:Nat→Rat) (i:Nat) (l:List ClR) {c:ClR} (hc:c∈cs):rz cash cs x i (l++[c])=rz cash cs x i l+if c.2.1=(i:Int) then fP cs (x c.1.toNat) c else 0:=by
 unfold rz;rw[ag5,nU,←Ng h x hc]
 show _+(_+((if (bs c).to=(i:Int) then (ab cash cs).pay x (bs c) else 0)+0))=_;have e:(bs c).to=c.2.1:=rfl;rw[e,ahq];grind
def IT (cash:List Int) (cs:List ClR) (x:Nat→Rat):Prop:=∀ i,i<cash.length→uU cash cs x i cs=some (x i)
section
variable {cash:List Int} {cs:List ClR} (hs:SmallD cash cs)
include hs
theorem M3:0<ij cash.length (sr cash cs)∧ij cash.length (sr cash cs)≤2^145:=by
 refine⟨rq fun k hk=>A7 hs hk,ag7 (sX fun k _=>DM hs k) (Nat.pow_le_pow_right (by omega) ?_)⟩
 have:=hs.n5;omega
theorem Dj:∃ M:Nat,0<M∧(∃ a,a≤547∧M≤2^a)∧(∀ i,i<cash.length→DenBy M ((ab cash cs).gr i))∧∀ c∈cs,DenBy M ((ab cash cs).pay (ab cash cs).gr (bs c)):=by
 obtain⟨M,h1,⟨a,h2,h3⟩,h4⟩:=Jb hs;obtain⟨p1,p2⟩:=M3 hs;refine⟨M*ij cash.length (sr cash cs),Nat.mul_pos h1 p1,⟨a+145,by omega,by rw[Nat.pow_add];exact Nat.mul_le_mul h3 p2⟩,fun i hi=>(h4 i hi).more _,fun c hc=>?_⟩
 have h5:=Er hs h4 hc;have hk:(bs c).fr<cash.length:=hs.ok.fr _ (ahr hc);refine h5.of_dvd ?_;obtain⟨m,hm⟩:=rF (D:=sr cash cs) hk;exact⟨m,by rw[hm,Nat.mul_assoc]⟩
theorem MX {i:Nat} (hi:i<cash.length) {l l':List ClR} (hl:cs=l++l'):szR 598 (rz cash cs (ab cash cs).gr i l):=by
 obtain⟨M,h1,⟨a,h2,h3⟩,-,h4⟩:=Dj hs
 have hpn:∀ m:List ClR,(∀ c∈m,c∈cs)→0≤sumC (m.map bs) fun c=>if c.to=(i:Int) then (ab cash cs).pay (ab cash cs).gr c else 0:=fun m hm=>dF fun y hy=>by
  obtain⟨c,hc,rfl⟩:=List.mem_map.1 hy
  try dsimp only
  split
  ·exact hs.ok.pay_nonneg _ (ahr (hm c hc))
  ·exact Rat.le_refl
 have hm1:∀ c∈l,c∈cs:=fun c hc=>by rw[hl];simp [hc]
 have hm2:∀ c∈l',c∈cs:=fun c hc=>by rw[hl];simp [hc]
 have hc0:(0:Rat)≤((cash.getD i 0:Int):Rat):=by have:=(hs.cash i).1;exact_mod_cast this
 have hd:DenBy M (rz cash cs (ab cash cs).gr i l):=by
  unfold rz;refine (DenBy.int _ _).add (DenBy.sumC fun y hy=>?_);obtain⟨c,hc,rfl⟩:=List.mem_map.1 hy
  split
  ·exact h4 c (hm1 c hc)
  ·exact DenBy.zero _
 have h0:0≤rz cash cs (ab cash cs).gr i l:=by
  have:=hpn l hm1;unfold rz;grind
 have hle:rz cash cs (ab cash cs).gr i l≤(ab cash cs).gr i:=by
  rw[(iM hs.ok).1 i hi]
  have e:(ab cash cs).phi (ab cash cs).gr i=rz cash cs (ab cash cs).gr i l+sumC (l'.map bs) fun c=>if c.to=(i:Int) then (ab cash cs).pay (ab cash cs).gr c else 0:=by
   have e2:(ab cash cs).phi (ab cash cs).gr i=((cash.getD i 0:Int):Rat)+sumC (cs.map bs) fun c=>if c.to=(i:Int) then (ab cash cs).pay (ab cash cs).gr c else 0:=rfl
   rw[e2];unfold rz;have e3:sumC (cs.map bs) (fun c=>if c.to=(i:Int) then (ab cash cs).pay (ab cash cs).gr c else 0)=sumC ((l++l').map bs) fun c=>if c.to=(i:Int) then (ab cash cs).pay (ab cash cs).gr c else 0:=by rw[←hl]
   rw[e3,ag5,nU];grind
  have:=hpn l' hm2;grind
 exact (hd.sz h1 h3 h0 (e:=51) (Rat.le_trans hle (RX hs hi))).mono (by omega)
theorem LJ:IT cash cs (ab cash cs).gr:=fun i hi=>by
 have key:∀ n (l l':List ClR),l.length=n→cs=l++l'→uU cash cs (ab cash cs).gr i l=some (rz cash cs (ab cash cs).gr i l):=by
  intro n
  induction n with
  | zero =>
   intro l l' hl _;have:l=[]:=List.length_eq_zero_iff.1 hl;subst this;rw[Jg];unfold rz;rw[ahs,sumC,ahq]
  | succ n ih =>
   intro l l' hl hcs;rcases ag2 l with h0 | ⟨m,c,rfl⟩
   ·subst h0;cases hl
   ·rw[ag3] at *
    simp only[agV,agW] at hl;have hc:c∈cs:=by rw[hcs];simp
    have hcm:cs=m++([c]++l'):=by rw[hcs,List.append_assoc]
    rw[og,Ht hs.right _ i m hc,ih m _ (by omega) hcm];unfold w8
    by_cases hto:c.2.1=(i:Int)
    ·rw[if_pos hto,if_pos hto,aht,if_pos]
     refine jJ (MX hs hi hcm) (b:=482) ?_ (by omega);rw[←Ng hs.right _ hc];exact LH hs hc
    ·rw[if_neg hto,if_neg hto,ahq]
 have h1:=key _ cs [] rfl (by simp);rw[h1,(iM hs.ok).1 i hi]
 rfl
end
end Go.Mini
namespace Go.Mini
open Go
set_option maxRecDepth 10000
set_option maxHeartbeats 4000000
theorem D4 (x:Rat):x*(x.den:Rat)=(x.num:Rat):=by
 have h:(Rat.divInt x.num x.den)=x:=Rat.num_divInt_den x;rw[Rat.divInt_eq_div] at h;have h0:((x.den:Int):Rat)≠0:=by have:=x.den_nz;exact_mod_cast this
 have h2:(x.num:Rat) / ((x.den:Int):Rat)*((x.den:Int):Rat)=(x.num:Rat):=Rat.div_mul_cancel h0;rw[h,ahu] at h2;exact h2
theorem Hf {x y:Rat} (h:jE x y=true):cy (x+y):=by
 unfold jE at h;simp only[ahv] at h;obtain⟨-,-,h3,h4⟩:=h
 have hd:((x.den:Int)*y.den)≠0:=by
  have h1:=x.den_nz;have h2:=y.den_nz;exact Int.mul_ne_zero (by omega) (by omega)
 have e:(x+y)*(((x.den:Int)*y.den:Int):Rat)=((x.num*y.den+y.num*x.den:Int):Rat):=by
  have e1:x*(x.den:Rat)=(x.num:Rat):=D4 x;have e2:y*(y.den:Rat)=(y.num:Rat):=D4 y;rw[ahw,ahx,ahx,ahx,ahu,ahu,←e1,←e2];grind
 obtain⟨f1,f2⟩:=fE hd e;have:=gY h3;have:=gY h4;exact⟨by omega,by omega⟩
theorem MP {α:Type} (p:α→Bool) (l:List α) (k:Nat) (hk:k<l.length) (h:∀ j (hj:j<k),p (l[j]'(by omega))=false) (h2:p l[k]=true):mn p l=k :=
 li (fun x hx=>by
  obtain⟨j,hj⟩:=List.mem_iff_getElem?.1 hx;rw[List.getElem?_take] at hj
  by_cases hjk:j<k
  ·rw[if_pos hjk,ahd (by omega),Option.some.injEq] at hj
   rw[←hj];exact h j hjk
  ·rw[if_neg hjk] at hj;cases hj) (ahd hk) h2
theorem n0 {d:Day} {h:Nat→Rat} {i:Nat}:∀ k,k≤10→d.fallRank h i k<10→(∀ j,10-k≤j→j<d.fallRank h i k→d.U i (j+1)≤h i)∧h i<d.U i (d.fallRank h i k+1)∧10-k≤d.fallRank h i k
 | 0,_,h1=>by rw[Day.fallRank] at h1;omega
 | k+1,hk,h1=>by
  rw[Day.fallRank] at h1 ⊢
  by_cases hc:h i<d.U i (10-(k+1)+1)
  ·rw[if_pos hc] at h1 ⊢
   exact⟨fun j h2 h3=>by omega,hc,agO _⟩
  ·rw[if_neg hc] at h1 ⊢
   obtain⟨k1,k2,k3⟩:=n0 k (by omega) h1;refine⟨fun j h2 h3=>?_,k2,by omega⟩
   by_cases hj:j=10-(k+1)
   ·rw[hj];grind
   ·exact k1 j (by omega) h3
theorem K6 {cash:List Int} {cs:List ClR} (hs:SmallD cash cs) (h:Nat→Rat) (n i:Nat) (hi:i<n) (hlim:cy (h i)) (hf:(ab cash cs).fallRank h i 10<10):mn (pdI (.solve (bY n h) i)) (fL 10 fun k=>aM cs i (k+1:Nat))=((ab cash cs).fallRank h i 10:Int):=by
 obtain⟨h1,h2,h3⟩:=n0 10 (agO _) hf;have hU:=fun k:Nat=>hs.upto i k
 have hp:∀ k:Nat,pdI (.solve (bY n h) i) (aM cs i (k+1:Nat))=decide (h i<(ab cash cs).U i (k+1)):=fun k=>by
  have hd:(bY n h).getD i bz=ak (h i):=by rw[agQ,eY h hi];rfl
  have iU:ca (aM cs i (k+1:Nat)):=gw (by have:=hU (k+1);omega) (by have:=hU (k+1);omega);simp only[pdI];rw[hd,uJ hlim (ez iU),BK,dA hs.right]
 refine MP _ _ _ (by rw[bT];exact hf) (fun j hj=>?_) ?_
 ·have e:=cR (fun k=>aM cs i (k+1:Nat)) (show j<10 by omega)
  rw[ahd (by rw[bT];omega),Option.some.injEq] at e;rw[e,hp];exact decide_eq_false (by have:=h1 j (by omega) hj;grind)
 ·have e:=cR (fun k=>aM cs i (k+1:Nat)) hf
  rw[ahd (by rw[bT];omega),Option.some.injEq] at e;rw[e,hp];exact decide_eq_true h2
def DebA.wf (a:DebA) (f:Nat→Nat):DebA:={ a with fl:=fL a.cash.length fun i=>(f i:Int) }
theorem DebA.wf_deb (a:DebA) (f:Nat→Nat) {i:Nat} (hi:i<a.cash.length):(a.wf f).deb i=(a.deb i).sf (f i):=by
 have:(fL a.cash.length fun i=>(f i:Int)).getD i 10=(f i:Int):=kr _ _ hi;unfold DebA.deb DebA.wf DebR.sf;dsimp only;rw[this]
theorem DebA.At.setf {a:DebA} {m:Mem} {f:Nat→Nat} (h:(a.wf f).At m) {i:Nat} (hi:i<a.cash.length) (r:Nat):(a.wf fun j=>if j=i then r else f j).At (aA m (228500+i) (a.gs.getD i 0) (dD ((a.deb i).sf r))):=by
 refine⟨h.can,bT _ _,h.pl,h.gl,?_,fun j hj=>?_⟩
 ·have:=h.row
  simp only[aA];rw[if_neg (show ¬ ((228023:Nat)=228500+i) by omega)];exact this
 ·rw[DebA.wf_deb a _ hj]
  simp only[aA]
  by_cases hji:j=i
  ·subst hji
   rw[if_pos rfl,if_pos rfl]
   rfl
  ·rw[if_neg (show ¬ ((228500+j:Nat)=228500+i) by omega),if_neg hji]
   have:=h.blk j hj;rw[DebA.wf_deb a _ hj] at this;exact this
theorem DebA.wf_congr (a:DebA) {p q:Nat→Nat} (h:∀ i,i<a.cash.length→p i=q i):a.wf p=a.wf q:=by
 unfold DebA.wf;rw[bK fun i hi=>by rw[h i hi]]
theorem N8 {n i:Nat} (f:Nat→Nat) (h:i<n):fOf (fL n fun i=>(f i:Int)) i=f i:=by
 unfold fOf;rw[kr _ _ h,ahn]
theorem Gh {x:DebR} (h:x.OK) {k g:Nat} {m:Mem} (hm:m k=some (g,dD x)) (n:Nat):toD (n+1) m (.ref k g 1 12 10)=some (.sl (x.us.tail.map aa)):=by
 have e:cut (dD x) 12 10=some (x.us.tail.map iC):=by
  unfold cut;rw[if_pos (by rw[jL h];omega)]
  congr 1
  obtain⟨c,cl,us,f,p⟩:=x;obtain⟨h1,h2⟩:=h;dsimp only at h1 h2
  cases us with
  | nil=>cases h2
  | cons u us =>
   have hl:us.length=10:=by simpa using h2
   unfold dD;dsimp only;rw[ahy,List.drop_append,List.drop_eq_nil_of_le (by rw[ag6];omega),ag6,h1,List.nil_append,ahz];rw[show 11-10=1 from rfl,List.cons_append,ahy,ahA,List.take_append_of_le_length (by rw[ag6];omega),ahj (by rw[ag6];omega)]
   rfl
 have e2:∀ l:List Int,(l.map iC).mapM (toD n m)=some (l.map fun z=>Data.int .i64 z):=by
  intro l
  induction l with
  | nil=>rfl
  | cons a l ih =>
   rw[ahz,ahB,ih];rw[show toD n m (iC a)=some (.int .i64 a) from sH n _]
   rfl
 have e3:∀ l:List Int,chunk 1 l.length (l.map fun z=>Data.int .i64 z)=l.map aa:=by
  intro l
  induction l with
  | nil=>rfl
  | cons a l ih=>simp only[ahC,ahz,chunk,List.take_succ_cons,aha,ahy,ahA,ih];rfl
 have hl:x.us.tail.length=10:=by rw[List.length_tail,h.us]
 unfold toD;rw[hm];dsimp only;rw[if_pos rfl,ahh,e];dsimp only;rw[e2];have:=e3 x.us.tail;rw[hl] at this;rw[ahl,this]
theorem DebA.At.up {a:DebA} {m:Mem} (h:a.At m) (hn:a.cash.length≤5) {k g:Nat} {cs:List MV} (hk:k / 1000≠228):a.At (aA m k g cs) :=
 ⟨h.can,h.fl,h.pl,h.gl,by rw[aF (by omega)];exact h.row,fun i hi=>by rw[aF (by omega)];exact h.blk i hi⟩
theorem Lw {α:Type} (n:Nat) (q:Nat→α):(fL (n+1) q).tail=fL n fun k=>q (k+1):=by
 unfold fL;rw[List.range_succ_eq_map,ahz,List.tail_cons,ahD]
 rfl
theorem D5 {m:Mem} {k g:Nat} {d:Data} (hm:m k=some (g,[.dat d])) (n:Nat):toD (n+1) m (.ptr k g 0)=some (.ptr [d]):=by
 unfold toD;rw[hm];dsimp only;rw[if_pos ⟨rfl,ahE _⟩,ahA,ahB,sH]
 rfl
theorem it (n k g sz o l:Nat):toD (n+1) emp (.ref k g sz o l)=none:=by
 unfold toD;rfl
noncomputable def fiR (d:Day) (f:Nat→Nat) (h:Nat→Rat) (i j:Nat):Nat:=if j<i then d.fallen f h j else f j
theorem RT (T:Tab) (bo:T bp=mkE fK) (aw:T bD=mkE d7) (ew:T bX=mkE oA) {K:bH→St→Prop} {kk:List Todo} (a:DebA) (hs:SmallD a.cash a.cs) (f:Nat→Nat) (hf:∀ i,i<a.cash.length→f i≤10) (h:Nat→Rat) (hlim:∀ i,i<a.cash.length→cy (h i)) (h0:∀ i,i<a.cash.length→0≤h i) (m0:Mem) (v1 v4 v7:MV) (G8 g10:Nat) (tm:Nat→MV) (m:Mem)
  (e1:tm 1=v1) (e4:tm 4=v4) (e6:tm 6 = .ref 228023 a.g 1 0 a.cash.length) (e7:tm 7=v7) (e8:tm 8 = .ptr 217008 G8 0) (e10:tm 10 = .ref 217057 g10 1 0 0) (e31:tm 31 = .ref 228023 a.g 1 0 a.cash.length) (e32:tm 32 = .dat (.int .i64 a.cash.length)) (e33:tm 33 = .dat (.int .i64 0))
  (hat:(a.wf f).At m) (m8:m0 217008=some (G8,[.dat (.sl ((bY a.cash.length h).map ad))])) (m57:m 217057=some (g10,[])) (hfr:∀ k,k / 1000≠228→k≠217011→k≠217057→m k=m0 k)
  (hK:∀ tm' m' g',tm' 1=v1→tm' 4=v4→tm' 6 = .ref 228023 a.g 1 0 a.cash.length→tm' 7=v7→tm' 8 = .ptr 217008 G8 0→tm' 10 = .ref 217057 g' 1 0 (gU (ab a.cash a.cs) f h a.cash.length).length→m' 217057=some (g',ay gS (gU (ab a.cash a.cs) f h a.cash.length))→(a.wf ((ab a.cash a.cs).fallen f h)).At m'→(∀ k,k / 1000≠228→k≠217011→k≠217057→m' k=m0 k)→kont T K kk (.exit 2) ⟨tm',m'⟩) :
  wp T (mf_clear_Solve.body.sub [1,1,1,1,0,0,0,0,1,1,1,0,1,0,0]) (kont T K kk) ⟨tm,m⟩:=by
 simp only[mf_clear_Solve,MCode.sub];have hn:=hs.n5;have hd:=hs.ok
 refine ae [1,4,6,7,8,31,32] [] (fun ((i,g):Nat × Nat) tm m=>i≤a.cash.length∧tm 33 = .dat (.int .i64 i)∧tm 10 = .ref 217057 g 1 0 (gU (ab a.cash a.cs) f h i).length∧m 217057=some (g,ay gS (gU (ab a.cash a.cs) f h i))∧(a.wf (fiR (ab a.cash a.cs) f h i)).At m∧∀ k,k / 1000≠228→k≠217011→k≠217057→m k=m0 k) (fun (i,_)=>a.cash.length-i) (0,g10) (by
  refine⟨by omega,e33,e10,m57,?_,hfr⟩
  rw[a.wf_congr (q:=f) fun j _=>by unfold fiR;rw[if_neg (by omega)]]
  exact hat) ?_
 intro vs ms hvs hms;simp only[go_sem,go_sem_proc,ahb,e1,e4,e6,e7,e8,e31,e32] at hvs hms;subst hvs hms;clear e1 e4 e6 e7 e8 e10 e31 e32 e33 hat m57 hfr tm m;rintro⟨i,g⟩ tm m hk-⟨hi,e33,e10,m57,hat,hfr⟩;simp only[go_sem,go_sem_proc,ahb,List.cons.injEq] at hk;obtain⟨e1,e4,e6,e7,e8,e31,e32⟩:=hk;rcases ahc (i<a.cash.length) with hlt | hge
 ·have d1:decide ((i:Int)<(a.cash.length:Int))=true:=decide_eq_true (by omega)
  have w3:IntKind.i64.wrap ((i:Int)+1)=((i+1:Nat):Int):=by rw[aj _ (by omega) (by omega)];omega
  have hf10:=hf i hlt;have hfi:fiR (ab a.cash a.cs) f h i i=f i:=by unfold fiR;rw[if_neg (by omega)]
  have hrow:m 228023=some (a.g,fL a.cash.length fun i => .ptr (228500+i) (a.gs.getD i 0) 0):=hat.row;have hblk:m (228500+i)=some (a.gs.getD i 0,_):=hat.blk i hlt;rw[DebA.wf_deb a _ hlt,hfi] at hblk;have q8:=(hfr 217008 (by decide) (by decide) (by decide)).trans m8;have hri:=ns (cR (fun i=>MV.ptr (228500+i) (a.gs.getD i 0) 0) hlt);have hrl:(fL a.cash.length fun i=>MV.ptr (228500+i) (a.gs.getD i 0) 0).length=a.cash.length:=bT _ _;have hok:((a.deb i).sf (f i)).OK:=⟨(a.deb_ok i).cl,(a.deb_ok i).us⟩;have hlen:=jL hok;have qf:List.take 1 (List.drop 22 (dD ((a.deb i).sf (f i))))=[iC (f i:Int)]:=BI hok;have qu:=sT hok (k:=f i) (z:=aM a.cs i (f i:Nat)) (cR _ (by omega));have qs:_=dD ((a.deb i).sf ((ab a.cash a.cs).fallRank h i 10)):=JH hok ((ab a.cash a.cs).fallRank h i 10:Nat);have l1:i+1≤a.cash.length:=by omega
  have l2:f i<11:=by omega
  have l3:(11+f i+1≤24)=True:=eq_true (by omega);have hU:=hs.upto i (f i);have iU:ca (aM a.cs i (f i:Nat)):=gw (by omega) (by omega);have hw:=fz _ iU;have hcmp:=jT (hlim i hlt) (ez iU);have hcast:=dA hs.right i (f i);have hge':decide (mM (h i) ((aM a.cs i (f i:Nat):Int):Rat)≥0)=decide (((aM a.cs i (f i:Nat):Int):Rat)≤h i):=sb;have hfs:=xQ (ab a.cash a.cs) f h i;rw[←hcast] at hfs;have hvg:=eY h hlt;have hfl5:=BM (ab a.cash a.cs) f h i;have hap:=dk ik wt 217057 g 8 (gU (ab a.cash a.cs) f h i) i (cs:=[.dat (.int .i64 i)]) rfl (by omega) (by omega);have hslice:=fun (m2:Mem) (hm2:m2 (228500+i)=some (a.gs.getD i 0,dD ((a.deb i).sf (f i)))) n=>Gh hok hm2 n
  have hus:((a.deb i).sf (f i)).us.tail=fL 10 fun k=>aM a.cs i (k+1:Nat):=Lw 10 _
  simp only[hus] at hslice
  have hnf:¬ h i<((aM a.cs i (f i:Nat):Int):Rat)→a.wf (fiR (ab a.cash a.cs) f h (i+1))=a.wf (fiR (ab a.cash a.cs) f h i):=fun hh=>a.wf_congr fun j _=>by
   unfold fiR
   by_cases hj:j=i
   ·subst hj
    rw[if_pos (by omega),if_neg (by omega)];unfold Day.fallen;rw[if_neg (by rw[←hcast];exact fun x=>hh x.2)]
   ·by_cases hj2:j<i
    ·rw[if_pos hj2,if_pos (by omega)]
    ·rw[if_neg hj2,if_neg (by omega)]
  have hyf:h i<((aM a.cs i (f i:Nat):Int):Rat)→a.wf (fiR (ab a.cash a.cs) f h (i+1))=a.wf (fun j=>if j=i then (ab a.cash a.cs).fallRank h i 10 else fiR (ab a.cash a.cs) f h i j):=fun hh=>a.wf_congr fun j _=>by
   unfold fiR
   by_cases hj:j=i
   ·subst hj
    rw[if_pos (by omega),if_pos rfl];unfold Day.fallen;rw[if_pos ⟨hlt,by rw[←hcast];exact hh⟩]
   ·rw[if_neg hj]
    by_cases hj2:j<i
    ·rw[if_pos hj2,if_pos (by omega)]
    ·rw[if_neg hj2,if_neg (by omega)]
  have hset:=fun (M:Mem) (hM:(a.wf (fiR (ab a.cash a.cs) f h i)).At M)=>hM.setf hlt ((ab a.cash a.cs).fallRank h i 10)
  have hfk:h i<((aM a.cs i (f i:Nat):Int):Rat)→(ab a.cash a.cs).fallRank h i 10<10:=fun hh=>by
   rw[hcast] at hh;have:=hd.U_mono i hf10;rcases lG hd (h:=h) (i:=i) 10 (agO _) (by rw[agS,Day.U_zero];exact h0 i hlt) with ⟨-,e⟩ | ⟨-,e,-⟩
   ·grind
   ·exact e
  have hixr:=fun hh=>K6 hs h a.cash.length i hlt (hlim i hlt) (hfk hh)
  have hix:=CL (fL 10 fun k=>aM a.cs i (k+1:Nat)) (.solve (bY a.cash.length h) i) ⟨by rw[bT];omega,by rw[dQ];exact hlt,yc (by omega) hlim,fun x hx=>by
   obtain⟨k,-,rfl⟩:=List.mem_map.1 hx;have:=hs.upto i (k+1:Nat);exact gw (by omega) (by omega)⟩
  simp only[l6] at hix;generalize hSL:(fL 10 fun k=>aM a.cs i (k+1:Nat))=SL at *;generalize hRW:(fL a.cash.length fun i=>MV.ptr (228500+i) (a.gs.getD i 0) 0)=RW at *;have hKd2:(228500+i) / 1000=228:=by omega
  generalize hKd:228500+i=KK at *;generalize hDD:dD ((a.deb i).sf (f i))=DC at *;have n11:(KK=217011)=False:=eq_false (by omega);have n57:(KK=217057)=False:=eq_false (by omega);have n57':(217057=KK)=False:=eq_false (by omega);have hH1:ak (h i)=ak (h i):=rfl;generalize hH:ak (h i)=H at *;generalize hX:ak ((aM a.cs i (f i:Nat):Int):Rat)=X at *;obtain⟨⟨b1,b2⟩,⟨b3,b4⟩⟩:=X;obtain⟨⟨a1,a2⟩,⟨a3,a4⟩⟩:=H;simp only[ad] at hw hcmp;rcases q1:decide (((aM a.cs i (f i:Nat):Int):Rat)≤h i)
  ·have hh:h i<((aM a.cs i (f i:Nat):Int):Rat):=by have:=of_decide_eq_false q1;grind
   rw[if_pos hh] at hfs;rw[←hfs] at hap;rw[hixr hh] at hix;simp only[←hyf hh] at hset;have hl1:(gU (ab a.cash a.cs) f h (i+1)).length=(gU (ab a.cash a.cs) f h i).length+1:=by rw[hfs,agV];rfl
   have hb8:∀ m2:Mem,m2 217008=some (G8,[.dat (.sl ((bY a.cash.length h).map ad))])→toD 5 m2 (.ptr 217008 G8 0)=some (.ptr [.sl ((bY a.cash.length h).map ad)]):=fun m2 hm2=>D5 hm2 4
   have hb11:∀ (m2:Mem) (g:Nat),m2 217011=some (g,[.dat (.int .i64 i)])→toD 5 m2 (.ptr 217011 g 0)=some (.ptr [.int .i64 i]):=fun m2 g hm2=>D5 hm2 4
   have hempr:=it 5 KK (a.gs.getD i 0) 1 12 10;simp only[go_sem,go_sem_proc,ahb,bo,aw,ew,e1,e4,e6,e7,e8,e10,e31,e32,e33,hrow,hblk,q8,m57,hri,hrl,hlen,qf,qu,qs,l1,l2,l3,hlt,hw,hcmp,hge',q1,hvg,hap,hslice,hix,hb8,hb11,hempr,n11,n57,n57',d1,w3,ad,iC,ahh,ag6,ahi,ahF,scalar,oS,ahG,ahH]
   repeat' (first|refine qS ?_ ?_|fail)<;>intro h<;>simp only[h,go_sem,go_sem_proc,ahb,bo,aw,ew,e1,e4,e6,e7,e8,e10,e31,e32,e33,hrow,hblk,q8,m57,hri,hrl,hlen,qf,qu,qs,l1,l2,l3,hlt,hw,hcmp,hge',q1,hvg,hap,hslice,hix,hb8,hb11,hempr,n11,n57,n57',d1,w3,ad,iC,ahh,ag6,ahi,ahF,scalar,oS,ahG,ahH]
   refine⟨(i+1,g+1),by dsimp only;omega,by dsimp only;omega,rfl,by rw[hl1],rfl,hset _ (((hat.up hn (by decide)).up hn (by decide)).up hn (by decide)),fun k h1 h2 h3=>?_⟩
   rw[if_neg (show ¬ k=KK by intro hk;rw[hk] at h1;exact h1 hKd2),if_neg h3,if_neg h2,if_neg h2];exact hfr k h1 h2 h3
  ·have hh:¬ h i<((aM a.cs i (f i:Nat):Int):Rat):=by have:=of_decide_eq_true q1;grind
   rw[if_neg hh] at hfs;simp only[go_sem,go_sem_proc,ahb,bo,aw,e1,e4,e6,e7,e8,e10,e31,e32,e33,hrow,hblk,q8,hri,hrl,hlen,qf,qu,l1,l2,l3,hlt,hw,hcmp,hge',q1,hvg,n11,d1,w3,ad,iC,ahh,ag6,ahi]
   repeat' (first|refine qS ?_ ?_|fail)<;>intro h<;>simp only[h,go_sem,go_sem_proc,ahb,bo,aw,e1,e4,e6,e7,e8,e10,e31,e32,e33,hrow,hblk,q8,hri,hrl,hlen,qf,qu,l1,l2,l3,hlt,hw,hcmp,hge',q1,hvg,n11,d1,w3,ad,iC,ahh,ag6,ahi]
   refine⟨(i+1,g),by dsimp only;omega,by dsimp only;omega,rfl,by rw[hfs],by rw[hfs];exact m57,?_,fun k h1 h2 h3=>?_⟩
   ·rw[hnf hh]
    exact (hat.up hn (by decide)).up hn (by decide)
   ·rw[if_neg h2,if_neg h2]
    exact hfr k h1 h2 h3
 ·have d1:decide ((i:Int)<(a.cash.length:Int))=false:=decide_eq_false (by omega)
  obtain rfl:i=a.cash.length:=by omega
  rw[a.wf_congr (q:=(ab a.cash a.cs).fallen f h) fun j hj=>by unfold fiR;rw[if_pos hj]] at hat
  simp only[go_sem,go_sem_proc,ahb,e1,e4,e6,e7,e8,e10,e31,e32,e33,d1]
  repeat' (first|refine qS ?_ ?_|fail)<;>intro h<;>simp only[h,go_sem,go_sem_proc,ahb,e1,e4,e6,e7,e8,e10,e31,e32,e33,d1]
  refine hK _ _ g ?_ ?_ ?_ ?_ ?_ ?_ m57 hat hfr<;>simp only[aH,ahk,if_false,e1,e4,e6,e7,e8,e10]
noncomputable def NG (hv:List aU):List Rat:=hv.map AK
structure Rz (cash:List Int) (cs:List ClR) (hv:List aU):Prop where
 n:cash.length≤1000000
 c:cs.length≤1000000
 o:okL hv
 sm:cE cash cs=true→SmallD cash cs
 sz:cE cash cs=true→hv.length=cash.length→hv.any (pdF bP)=false→∀ f∈hv,szR 460 (AK f)
open Classical in
noncomputable def NX (cash:List Int) (cs:List ClR) (x:Nat→Rat):Bool:=decide (IT cash cs x)
open Classical in
theorem II {cash:List Int} {cs:List ClR} {x:Nat→Rat}:NX cash cs x=true↔IT cash cs x:=by
 unfold NX;exact decide_eq_true_iff
noncomputable def Ny (cash:List Int) (cs:List ClR) (hv:List aU):Bool:=cE cash cs&&(decide (hv.length=cash.length)&&(!hv.any (pdF bP)&&NX cash cs fun i=>(NG hv).getD i 0))
structure SumAt (cash:List Int) (cs:List ClR) (x:Nat→Rat) (l:List ClR) (s:Nat→Rat):Prop where
 a:∀ i,i<cash.length→uU cash cs x i l=some (s i)
 l:∀ i,i<cash.length→cy (s i)
theorem SumAt.skip {cash:List Int} {cs:List ClR} {x:Nat→Rat} {l:List ClR} {s:Nat→Rat} (h:SumAt cash cs x l s) {c:ClR} (hc:c.2.1<0):SumAt cash cs x (l++[c]) s:=by
 refine⟨fun i hi=>?_,h.l⟩
 rw[og,h.a i hi];unfold w8;rw[if_neg (by omega)]
theorem SumAt.add {cash:List Int} {cs:List ClR} {x:Nat→Rat} {l:List ClR} {s:Nat→Rat} (h:SumAt cash cs x l s) {c:ClR} {t:Nat} (hc:c.2.1=(t:Int)) (hk:jE (s t) (fP cs (x c.1.toNat) c)=true):SumAt cash cs x (l++[c]) fun i=>if i=t then s t+fP cs (x c.1.toNat) c else s i:=by
 refine⟨fun i hi=>?_,fun i hi=>?_⟩
 ·rw[og,h.a i hi]
  unfold w8
  by_cases hit:i=t
  ·subst hit
   rw[if_pos hc,aht,if_pos hk,if_pos rfl]
  ·rw[if_neg (by omega),if_neg hit]
 ·by_cases hit:i=t
  ·rw[if_pos hit];exact Hf hk
  ·rw[if_neg hit];exact h.l i hi
theorem Kg {n:Nat} {f:Nat→Nat} (h:∀ i,n≤i→f i=10):fOf (fL n fun i=>(f i:Int))=f:=by
 funext i
 by_cases hi:i<n
 ·exact N8 f hi
 ·unfold fOf
  rw[agQ,ahI (by rw[bT];omega),h i (by omega)];rfl
theorem Ay {d:Day} {f:Nat→Nat} {h:Nat→Rat} (h10:∀ i,d.n≤i→f i=10):∀ i,d.n≤i→d.fallen f h i=10:=fun i hi=>by
 unfold Day.fallen;rw[if_neg fun x=>by omega,h10 i hi]
theorem th (d:Day):∀ k f,(d.rounds k f).1.length≤k
 | 0,f=>agO _
 | k+1,f=>by
  rw[Day.rounds]
  split
  ·exact ahE _
  ·have:=th d k (d.fallen f (d.top f))
   simp only[ahC];omega
def nM (l:List Nat):List Data:=[.sl (l.map gS)]
theorem wc (l:List Nat):(nM l).length=1:=rfl
theorem FA (l:List Nat):((nM l).map MV.dat).all MV.one=true:=rfl
def oT (done:List (List Nat)) (g:Nat):MV:=if done=[] then .nil else .ref 217077 g 1 0 done.length
structure Q1 (cash:List Int) (cs:List ClR) (g:Nat) (gs:Nat→Nat) (f:Nat→Nat) (done:List (List Nat)) (gF:Nat) (m:Mem):Prop where
 at_:∃ p,(((opA cash cs g gs).wf f).wP p).At m
 out:∃ g7,g7=0∧m 217007=some (g7,[.nil,.nil,oT done gF])
 row:done≠[]→m 217077=some (gF,ay nM done)
 no:∀ k:Nat,k / 1000≠217→k / 1000≠228→m k=none
 f10:∀ i,cash.length≤i→f i=10
 reach:Reach (ab cash (aE cash.length cs)) f
 frs:∃ r,kV cash.length f≤r∧(ab cash (aE cash.length cs)).frs=done++((ab cash (aE cash.length cs)).rounds r f).1∧(ab cash (aE cash.length cs)).fend=((ab cash (aE cash.length cs)).rounds r f).2
theorem QY (T:Tab) (fh:T iT=mkQ nH) (bo:T bp=mkE fK) (aw:T bD=mkE d7) (ew:T bX=mkE oA) {K:bH→St→Prop} {kk:List Todo} (cash:List Int) (cs:List ClR) (hs0:SmallD cash cs) (g:Nat) (gs:Nat→Nat) (v1:MV) (tm:Nat→MV) (m:Mem)
  (e1:tm 1=v1) (e4:tm 4 = .ptr 217004 0 0) (e6:tm 6 = .ref 228023 g 1 0 cash.length) (e7:tm 7 = .ptr 217007 0 0) (m4:m 217004=some (0,[.nil,.nil,.nil])) (hat:Q1 cash cs g gs (fun _=>10) [] 0 m)
  (hK:∀ tm' m' gF,tm' 1=v1→tm' 4 = .ptr 217004 0 0→tm' 7 = .ptr 217007 0 0→m' 217004=some (0,[.nil,.nil,.nil])→m' 217007=some (0,[.dat (.sl ((bY cash.length (ab cash (aE cash.length cs)).gr).map ad)),.nil,oT (ab cash (aE cash.length cs)).frs gF])→((ab cash (aE cash.length cs)).frs≠[]→m' 217077=some (gF,ay nM (ab cash (aE cash.length cs)).frs))→kont T K kk (.exit 0) ⟨tm',m'⟩) :
  wp T (mf_clear_Solve.body.sub [1,1,1,1,0,0]) (kont T K kk) ⟨tm,m⟩:=by
 simp only[mf_clear_Solve,MCode.sub];have hs:=nm hs0;have hn:=hs.n5;have hd:=hs.ok;refine ae [1,4,6,7] [217004] (fun ((f,done,gF):(Nat→Nat) × List (List Nat) × Nat) tm m=>Q1 cash cs g gs f done gF m) (fun (f,_)=>kV cash.length f) (fun _=>10,[],0) (by exact hat) ?_;intro vs ms hvs hms;simp only[go_sem,go_sem_proc,ahb,e1,e4,e6,e7,m4] at hvs hms;subst hvs hms;clear e1 e4 e6 e7 m4 hat tm m;rintro⟨f,done,gF⟩ tm m hk m4 hat;simp only[go_sem,go_sem_proc,ahb,List.cons.injEq] at hk m4;obtain⟨e1,e4,e6,e7⟩:=hk;obtain⟨⟨p,hat⟩,⟨g7,rfl,hout⟩,hrow,hno,hf10,hreach,r,hr1,hr2,hr3⟩:=hat;dsimp only at *;have hfo:=Kg hf10;have hrc:=hreach;obtain⟨gI,hinv,-⟩:=hreach
 have hQ:=A6 (((opA cash cs g gs).wf f).wP p) m ⟨hat,fun k hk=>hno k (by omega) (by omega),fun k hk=>hno k (by omega) (by omega),fun k hk=>hno k (by omega) (by omega),⟨hs,fun x hx=>by
  obtain⟨i,-,rfl⟩:=List.mem_map.1 hx;have:=hinv.le i;omega⟩,⟨gI,by show Inv (ab cash (aE cash.length cs)) (fOf (fL cash.length fun i=>(f i:Int))) gI;rw[hfo];exact hinv⟩⟩
 have hQ':nH [.ref 228023 g 1 0 cash.length] m=some (xV (((opA cash cs g gs).wf f).wP p) m):=hQ;simp only[go_sem,go_sem_proc,ahb,fh,e1,e4,e6,e7,hQ'];have ht:=Day.top_spec (hd.hex f hrc);have hlim:∀ i,i<cash.length→cy ((ab cash (aE cash.length cs)).top f i):=fun i hi=>dU (HA hs hrc hi) (by omega)
 have h0:∀ i,i<cash.length→0≤(ab cash (aE cash.length cs)).top f i:=fun i hi=>ht.nonneg hd hi
 rintro rr mem' ⟨hrr,p',hat',hout'⟩
 have hrr2:rr = .tup [.dat (.sl ((bY cash.length ((ab cash (aE cash.length cs)).top f)).map ad)),.dat (.bool true)]:=by
  rw[hrr]
  show MV.tup [.dat (.sl ((bY cash.length ((ab cash (aE cash.length cs)).top (fOf (fL cash.length fun i=>(f i:Int))))).map ad)),.dat (.bool true)]=_;rw[hfo]
 clear hrr hQ hQ';subst hrr2;have hO:∀ k:Nat,k / 1000≠228→mem' k=m k:=fun k hk=>hout' k fun i hi=>by have:i<cash.length:=hi;omega
 have q4:=(hO 217004 (by decide)).trans m4;have q7:=(hO 217007 (by decide)).trans hout;have hgr:(ab cash (aE cash.length cs)).falls f=gU (ab cash (aE cash.length cs)) f ((ab cash (aE cash.length cs)).top f) cash.length:=rfl
 have hfin0:(ab cash (aE cash.length cs)).falls f=[]→(ab cash (aE cash.length cs)).frs=done∧(ab cash (aE cash.length cs)).gr=(ab cash (aE cash.length cs)).top f:=fun h=>by
  have:=(ab cash (aE cash.length cs)).rounds_stop h r;rw[this,ag1] at hr2;rw[this] at hr3;exact⟨hr2,by unfold Day.gr;rw[hr3]⟩
 have hnext:(ab cash (aE cash.length cs)).falls f≠[]→kV cash.length ((ab cash (aE cash.length cs)).fallen f ((ab cash (aE cash.length cs)).top f))<kV cash.length f∧Reach (ab cash (aE cash.length cs)) ((ab cash (aE cash.length cs)).fallen f ((ab cash (aE cash.length cs)).top f))∧(∀ i,cash.length≤i→(ab cash (aE cash.length cs)).fallen f ((ab cash (aE cash.length cs)).top f) i=10)∧∃ r,kV cash.length ((ab cash (aE cash.length cs)).fallen f ((ab cash (aE cash.length cs)).top f))≤r∧(ab cash (aE cash.length cs)).frs=(done++[(ab cash (aE cash.length cs)).falls f])++((ab cash (aE cash.length cs)).rounds r ((ab cash (aE cash.length cs)).fallen f ((ab cash (aE cash.length cs)).top f))).1∧(ab cash (aE cash.length cs)).fend=((ab cash (aE cash.length cs)).rounds r ((ab cash (aE cash.length cs)).fallen f ((ab cash (aE cash.length cs)).top f))).2:=fun hne=>by
  have hlt:=ro hd hd.hex hrc hne;have hlt':kV cash.length ((ab cash (aE cash.length cs)).fallen f ((ab cash (aE cash.length cs)).top f))<kV cash.length f:=hlt;refine⟨hlt',hrc.next hd hd.hex,Ay (d:=ab cash (aE cash.length cs)) hf10,?_⟩
  cases r with
  | zero=>omega
  | succ r =>
   rw[Day.rounds,if_neg hne] at hr2 hr3;exact⟨r,by omega,by rw[hr2];simp,hr3⟩
 generalize hd':ab cash (aE cash.length cs)=d at *;generalize hV:(bY cash.length (d.top f)).map ad=V at *;simp only[go_sem,go_sem_proc,ahb,e1,e4,e6,e7,q4,q7,aho];subst hd';rw[←hV];refine RT T bo aw ew ((opA cash cs g gs).wP p') hs f (fun i _=>hinv.le i) ((ab cash (aE cash.length cs)).top f) hlim h0 _ v1 (.ptr 217004 0 0) (.ptr 217007 0 0) (cL (mem' 217008)) (cL (mem' 217057)) _ _ ?_ ?_ ?_ ?_ ?_ ?_ ?_ ?_ ?_ (((show ((((opA cash cs g gs).wP p').wf f)).At mem' from hat').up hn (by decide)).up hn (by decide)|>.up hn (by decide)) ?_ ?_ (fun _ _ _ _=>rfl) ?_
 all_goals first | (intro tm2 m2 g2 k1 k4 k6 k7 k8 k10 q57 hat2 hfr2) | (simp only[aH,ahk,if_false,if_true,e1,e4,e6,e7];done) | (simp only[aH,ahk,if_false,if_true];rfl) | (simp only[aH,ahk,if_false,if_true,e1,e4,e6,e7];rfl) | (simp only[aA,ahk,if_false,if_true];done) | (simp only[aA,ahk,if_false,if_true];rfl) | skip
 replace k10:tm2 10 = .ref 217057 g2 1 0 ((ab cash (aE cash.length cs)).falls f).length:=k10;replace q57:m2 217057=some (g2,ay gS ((ab cash (aE cash.length cs)).falls f)):=q57;replace k6:tm2 6 = .ref 228023 g 1 0 cash.length:=k6;replace hat2:(((opA cash cs g gs).wP p').wf ((ab cash (aE cash.length cs)).fallen f ((ab cash (aE cash.length cs)).top f))).At m2:=hat2;have r4:m2 217004=some (0,[.nil,.nil,.nil]):=(hfr2 217004 (by decide) (by decide) (by decide)).trans (by simp only[aA,ahk,if_false];exact q4);have r7:m2 217007=some (0,[.nil,.nil,oT done gF]):=(hfr2 217007 (by decide) (by decide) (by decide)).trans (by simp only[aA,ahk,if_false];exact q7);have r8:m2 217008=some (cL (mem' 217008),[.dat (.sl V)]):=(hfr2 217008 (by decide) (by decide) (by decide)).trans (by simp only[aA,ahk,if_false,if_true];rw[hV]);have r77:done≠[]→m2 217077=some (gF,ay nM done):=fun h=>(hfr2 217077 (by decide) (by decide) (by decide)).trans (by simp only[aA,ahk,if_false];exact (hO 217077 (by decide)).trans (hrow h))
 have rne:∀ (k j:Nat),k / 1000≠217→j / 1000=217→k≠j:=fun k j h1 h2 h=>h1 (h ▸ h2)
 have rno:∀ k:Nat,k / 1000≠217→k / 1000≠228→m2 k=none:=fun k h1 h2=>(hfr2 k h2 (rne k _ h1 (by decide)) (rne k _ h1 (by decide))).trans (by
  rw[aF (rne k _ h1 (by decide)),aF (rne k _ h1 (by decide)),aF (rne k _ h1 (by decide))];exact (hO k h2).trans (hno k h1 h2))
 clear hfr2 hO hat' hout' q4 q7 hout hrow hno m4 e1 e4 e6 e7 hr2 hr3
 by_cases hne:(ab cash (aE cash.length cs)).falls f=[]
 ·obtain⟨h1,h2⟩:=hfin0 hne
  rw[hne] at k10;rw[h1,h2] at hK;have hl0:(((0:Nat):Int)==0)=true:=rfl;simp only[go_sem,go_sem_proc,ahb,k1,k4,k6,k7,k8,k10,r4,r7,r8,hl0,List.length_nil,List.set_cons_zero];refine hK _ _ gF ?_ ?_ ?_ ?_ ?_ fun h=>?_
  ·simp only[aH,ahk,if_false];exact k1
  ·simp only[aH,ahk,if_false];exact k4
  ·simp only[aH,ahk,if_false];exact k7
  ·simp only[aA,ahk,if_false];exact r4
  ·simp only[aA,ahk,if_true];rw[hV]
  ·simp only[aA,ahk,if_false];exact r77 h
 ·obtain⟨h1,h2,h3,h4⟩:=hnext hne
  have hfl5:((ab cash (aE cash.length cs)).falls f).length≤5:=ag7 (ag8 _ _) (by rw[ag9];exact hn)
  have hl0:((((ab cash (aE cash.length cs)).falls f).length:Int)==0)=false:=by
   have:((ab cash (aE cash.length cs)).falls f).length≠0:=fun h=>hne (List.length_eq_zero_iff.1 h)
   rw[beq_eq_false_iff_ne];omega
  have hfz:=fun (K:St→Prop) (st:St)=>bO (K:=K) (st:=st) ik 10 217057 g2 ((ab cash (aE cash.length cs)).falls f)
  have hml:(1≤maxLen)=True:=eq_true (by decide);generalize hfd:(ab cash (aE cash.length cs)).falls f=fl at *;clear hfin0 hnext hK;have hnoF:∀ (M:Mem),(∀ k:Nat,k / 1000≠217→M k=m2 k)→∀ k:Nat,k / 1000≠217→k / 1000≠228→M k=none:=fun M hM k h1 h2=>(hM k h1).trans (rno k h1 h2)
  by_cases hdn:done=[]
  ·subst hdn
   have hfm:oT [] gF = .nil:=rfl;rw[hfm] at r7;simp only[go_sem,go_sem_proc,ahb,k1,k4,k6,k7,k8,k10,r4,r7,r8,q57,hl0,hfz,hml];refine⟨(_,[fl],cL (m2 217077)),h1,⟨⟨p',((hat2.up hn (by decide)).up hn (by decide)).up hn (by decide)⟩,⟨0,rfl,?_⟩,fun _=>?_,?_,h3,h2,h4⟩⟩
   ·rw[cf];rfl
   ·rw[aF (by decide),cf];rfl
   ·exact hnoF _ fun k hk=>by rw[aF (rne k _ hk (by decide)),aF (rne k _ hk (by decide)),aF (rne k _ hk (by decide))]
  ·have hfm:oT done gF = .ref 217077 gF 1 0 done.length:=by unfold oT;rw[if_neg hdn]
   rw[hfm] at r7;have q77:=r77 hdn
   have hdl:done.length+1≤50:=by
    obtain⟨r',-,h5,-⟩:=h4;have h6:=th (ab cash (aE cash.length cs)) (10*(ab cash (aE cash.length cs)).n) fun _=>10
    have h7:(ab cash (aE cash.length cs)).frs.length≤10*cash.length:=h6;rw[h5] at h7;simp only[agV,agW] at h7;omega
   have hap:=dk wc FA 217077 gF 24 done fl (cs:=[.dat (.sl (fl.map gS))]) rfl (by omega) (by omega);simp only[go_sem,go_sem_proc,ahb,k1,k4,k6,k7,k8,k10,r4,r7,r8,q57,q77,hl0,hfz,hap];refine⟨(_,done++[fl],gF+1),h1,⟨⟨p',((hat2.up hn (by decide)).up hn (by decide)).up hn (by decide)⟩,⟨0,rfl,?_⟩,fun _=>?_,?_,h3,h2,h4⟩⟩
   ·rw[cf]
    unfold oT;rw[if_neg (by simp),agV];rfl
   ·rw[aF (by decide),cf]
   ·exact hnoF _ fun k hk=>by rw[aF (rne k _ hk (by decide)),aF (rne k _ hk (by decide)),aF (rne k _ hk (by decide))]

theorem Alike.gr {d e:Day} (h:Alike d e):d.gr=e.gr:=by unfold Day.gr Day.fend;rw[h.top,h.rounds,h.n]
theorem Alike.frs {d e:Day} (h:Alike d e):d.frs=e.frs:=by unfold Day.frs;rw[h.rounds,h.n]
structure vn (cash:List Int) (cs:List ClR):Prop where
 n:cash.length≤1000000
 c:cs.length≤1000000
 sm:cE cash cs=true→SmallD cash cs
noncomputable def u6 (cash:List Int) (cs:List ClR):List aU:=cs.map fun c=>ak (fP cs ((ab cash cs).gr c.1.toNat) c)
noncomputable def kY (cash:List Int) (cs:List ClR):List aU:=bY cash.length (ab cash cs).gr
noncomputable def FC (cash:List Int) (cs:List ClR):Data:=if cE cash cs=true then .tup [.agg [.sl ((kY cash cs).map ad),.sl ((u6 cash cs).map ad),.sl ((ab cash cs).frs.map nM)],.int .i64 0] else .tup [.agg [.sl [],.sl [],.sl []],.int .i64 1]
theorem Lk {cash:List Int} {cs:List ClR} (hs:SmallD cash cs):zN cs ((agP cash.length).map (ab cash cs).gr):=by
 have hr:=(rightD_iff.1 hs.right).2.2.2;have hn:=hs.n5;refine⟨hs.c12,by simp;exact hn,fun c hc=>?_,fun x hx=>?_⟩
 ·have h1:=hr c hc
  have h2:=hs.am c hc;rw[ag6,ag9];omega
 ·obtain⟨i,hi,rfl⟩:=List.mem_map.1 hx
  have hi':=List.mem_range.1 hi;exact⟨wG hs.ok hi',(wQ hs hi').mono (by omega)⟩
theorem Mu {cash:List Int} {cs:List ClR} (hs:SmallD cash cs):(cs.map fun c=>ak (fP cs (((agP cash.length).map (ab cash cs).gr).getD c.1.toNat 0) c))=u6 cash cs:=ag4 fun c hc=>by
 have h1:=(rightD_iff.1 hs.right).2.2.2 c hc;have:((agP cash.length).map (ab cash cs).gr).getD c.1.toNat 0=(ab cash cs).gr c.1.toNat:=kr (ab cash cs).gr 0 (show c.1.toNat<cash.length by omega);rw[this]
noncomputable def qb:List Data→Option PRes:=FF (α:=(List Int) × (List ClR)) (fun (cash,cs)=>([.sl (cash.map aa),.sl (cs.map clL)]:List Data)) (fun (cash,cs)=>aG (vn cash cs) (.same (FC cash cs)))
theorem yS:∀ a b:(List Int) × (List ClR),(fun (cash,cs)=>([.sl (cash.map aa),.sl (cs.map clL)]:List Data)) a=(fun (cash,cs)=>([.sl (cash.map aa),.sl (cs.map clL)]:List Data)) b→a=b:=by
  rintro⟨cash1,cs1⟩ ⟨cash2,cs2⟩ h;simp only[List.cons.injEq,Data.sl.injEq,and_true] at h;exact Prod.ext (af ai _ _ h.1) (af fZ _ _ h.2)
@[go_sem] theorem rY (cash:List Int) (cs:List ClR) (hc:vn cash cs):qb [.sl (cash.map aa),.sl (cs.map clL)]=some (.same (FC cash cs)):=(aV yS (cash,cs)).trans (an hc _)
theorem HB (T:Tab) (ie:T kZ=mkE ti) (jy:T lO=mkQ ya) (fh:T iT=mkQ nH) (bo:T bp=mkE fK) (aw:T bD=mkE d7) (ew:T bX=mkE oA) (jD:T iX=mkE sF) (cash:List Int) (cs:List ClR) (hc:vn cash cs) :
  wp T mf_clear_Solve.body (bG mf_clear_Solve.res (.same (FC cash cs))) ⟨ax [.dat (.sl (cash.map aa)),.dat (.sl (cs.map clL))],emp⟩:=by
 refine ap ?_;simp only[mf_clear_Solve];obtain⟨hn0,hc0,hsm⟩:=hc;unfold FC;rcases hr:cE cash cs
 ·rw[if_neg (by decide)]
  simp only[go_sem,go_sem_proc,ahb,ie,jy,fh,bo,aw,ew,jD,hn0,hc0,hr,ahJ]
  repeat' (first|refine qS ?_ ?_|fail)<;>intro h<;>simp only[h,go_sem,go_sem_proc,ahb,ie,jy,fh,bo,aw,ew,jD,hn0,hc0,hr,ahJ]
 ·rw[if_pos rfl]
  have hs:=hsm hr;have hn:=hs.n5;have hal:=qH hr
  have hno:NoK 228 (aA emp 217004 0 [MV.nil,MV.nil,MV.nil]):=fun k hk=>by
   rw[aF (by rintro rfl;omega)];rfl
  have hQ:=CJ cash cs (aA emp 217004 0 [MV.nil,MV.nil,MV.nil]) ⟨hs,hno⟩;simp only[go_sem,go_sem_proc,ahb,ie,jy,fh,bo,aw,ew,jD,hn0,hc0,hr,hQ,aho];rintro rr m ⟨g,gs,rfl,hat,hfr⟩;dsimp only at hat;have m4:m 217004=some (0,[.nil,.nil,.nil]):=(hfr 217004 (by decide)).trans cf;have m7:m 217007=none:=(hfr 217007 (by decide)).trans (aF (by decide));simp only[go_sem,go_sem_proc,ahb,ie,jy,fh,bo,aw,ew,jD,m7];refine QY T fh bo aw ew cash cs hs g gs (.dat (.sl (cs.map clL))) _ _ ?_ ?_ ?_ ?_ ?_ ⟨⟨fun _=>false,?_⟩,⟨0,rfl,?_⟩,fun h=>absurd rfl h,?_,fun _ _=>rfl,Reach.start (nm hs).ok,⟨10*cash.length,?_,rfl,rfl⟩⟩ ?_
  all_goals first | (intro tm2 m2 gF k1 k4 k7 q4 q7 q77) | (simp only[aH,ahk,if_false,if_true];done) | (simp only[aH,ahk,if_false,if_true];rfl) | (simp only[aA,ahk,if_false,if_true];done) | (simp only[aA,ahk,if_false,if_true];rfl) | (simp only[aA,ahk,if_false,if_true];exact m4) | skip
  ·exact hat.up hn (by decide)
  ·intro k h1 h2
   rw[aF (by rintro rfl;exact h1 (by decide)),hfr k h2,aF (by rintro rfl;exact h1 (by decide))];rfl
  ·rw[uK];exact agO _
  rw[←hal.gr,←hal.frs] at q7;rw[←hal.frs] at q77;have hpy:=Dz cs ((agP cash.length).map (ab cash cs).gr) (Lk hs);rw[Mu hs] at hpy;replace hpy:sF [.sl (cs.map clL),.sl ((kY cash cs).map ad)]=some (.same (.tup [.sl ((u6 cash cs).map ad),.bool true])):=hpy;replace q7:m2 217007=some (0,[.dat (.sl ((kY cash cs).map ad)),.nil,oT (ab cash cs).frs gF]):=q7;generalize kY cash cs=HV at *;generalize u6 cash cs=PD at *;generalize (ab cash cs).frs=FR at *;clear hal hQ hat hfr m4 m7
  by_cases hfe:FR=[]
  ·subst hfe
   replace q7:m2 217007=some (0,[.dat (.sl (HV.map ad)),.nil,.nil]):=q7;simp only[go_sem,go_sem_proc,ahb,ie,jy,fh,bo,aw,ew,jD];refine rC ?_;rintro M rfl;simp only[go_sem,go_sem_proc,ahb,ie,jy,fh,bo,aw,ew,jD,k1,k4,k7,q4,q7,hpy,aho,ahs]
   repeat' (first|refine qS ?_ ?_|fail)<;>intro h<;>simp only[h,go_sem,go_sem_proc,ahb,ie,jy,fh,bo,aw,ew,jD,k1,k4,k7,q4,q7,hpy,aho,ahs]
  ·have q8:=q77 hfe
   have hfm:oT FR gF = .ref 217077 gF 1 0 FR.length:=by unfold oT;rw[if_neg hfe]
   rw[hfm] at q7;simp only[go_sem,go_sem_proc,ahb,ie,jy,fh,bo,aw,ew,jD];refine rK (MoveS.mfrz 217007 0 _ 2 217077 gF 1 0 FR.length _ (.sl (FR.map nM)) q7 rfl q8 (by decide) (eG (n:=0) wc q8)) ?_;intro M hM;have hM7:M 217007=some (0,[.dat (.sl (HV.map ad)),.nil,.dat (.sl (FR.map nM))]):=by rw[hM,cf];rfl
   have hM4:M 217004=some (0,[.nil,.nil,.nil]):=by
    rw[hM,aF (by decide)];unfold kill;rw[aF (by decide)];exact q4
   clear hM;simp only[go_sem,go_sem_proc,ahb,ie,jy,fh,bo,aw,ew,jD,k1,k4,k7,hM4,hM7,hpy,aho]
   repeat' (first|refine qS ?_ ?_|fail)<;>intro h<;>simp only[h,go_sem,go_sem_proc,ahb,ie,jy,fh,bo,aw,ew,jD,k1,k4,k7,hM4,hM7,hpy,aho]
theorem vf (a b:List ClR) (w:Int):bU (a++b) w=bU a w++bU b w:=by unfold bU;rw[agX]
theorem yp (cs:List ClR) (w:Int):(bU cs w).length≤cs.length:=by unfold bU;exact ag8 _ _
set_option maxHeartbeats 1000000
theorem fewD_iff {cash:List Int} {cs:List ClR}:uq cash cs=true↔cash.length≤5∧cs.length≤12∧(∀ x∈cash,1000000<x→1000000000000000<x)∧∀ c∈cs,1000000<c.2.2.2→1000000000000000<c.2.2.2:=by
 have hf:∀ m:Int,lL m=true↔(1000000<m→1000000000000000<m):=fun m=>by
  unfold lL
  by_cases h1:m>1000000<;>by_cases h2:m≤1000000000000000<;>simp [h1,h2]<;>omega
 unfold uq;simp only[ahv,ahK,decide_eq_false_iff_not,ahL,hf]
 constructor
 ·rintro⟨h1,h2,h3,h4⟩
  exact⟨by omega,by omega,h3,h4⟩
 ·rintro⟨h1,h2,h3,h4⟩
  exact⟨by omega,by omega,h3,h4⟩
theorem t8 {cash:List Int} {cs:List ClR} (hf:uq cash cs=true) (hr:cE cash cs=true):(∀ x∈cash,0≤x∧x≤1000000)∧∀ c∈cs,0≤c.2.2.2∧c.2.2.2≤1000000:=by
 obtain⟨-,-,h3,h4⟩:=fewD_iff.1 hf;obtain⟨-,-,h5,h6⟩:=rightD_iff.1 hr;refine⟨fun x hx=>?_,fun c hc=>?_⟩
 ·have:=h3 x hx;have:=h5 x hx;omega
 ·have:=h4 c hc;have:=h6 c hc;omega
theorem rS {cash:List Int} {cs:List ClR} (hf:uq cash cs=true) (hr:cE cash cs=true):SmallD cash cs:=by
 obtain⟨h1,h2,-,-⟩:=fewD_iff.1 hf;exact⟨hr,h1,h2,fun c hc=>by have:=(t8 hf hr).2 c hc;omega⟩
theorem Lu {cash:List Int} {cs:List ClR} (hf:uq cash cs=true):vn cash cs:=by
 obtain⟨h1,h2,-,-⟩:=fewD_iff.1 hf;exact⟨by omega,by omega,rS hf⟩
section
variable {cash:List Int} {cs:List ClR} (hs:SmallD cash cs)
include hs
theorem MK:okL (kY cash cs):=by
 have:=hs.n5;exact yc (by omega) fun i hi=>dU (wQ hs hi) (by omega)
theorem GP:(kY cash cs).any (pdF bP)=false∧NG (kY cash cs)=(agP cash.length).map (ab cash cs).gr:=by
 refine⟨?_,?_⟩
 ·rw[List.any_eq_false]
  intro f hf;obtain⟨y,hy,rfl⟩:=List.mem_map.1 hf;obtain⟨i,hi,rfl⟩:=List.mem_map.1 hy;have hi':i<cash.length:=List.mem_range.1 hi;have hl:=dU (wQ hs hi') (by omega);have hn:=wG hs.ok hi';rw[uH]
  show ¬ (!bf (ak ((ab cash cs).gr i))||decide ((ak ((ab cash cs).gr i)).1.1<0))=true;rw[oB hl];have:decide ((ab cash cs).gr i<0)=false:=decide_eq_false (by grind);rw[←ul] at this;have h2:decide ((ak ((ab cash cs).gr i)).1.1<0)=false:=this;rw[h2];decide
 ·unfold NG kY bY
  rw[ahD];exact (ag4 fun x _=>kG x).trans (List.map_id _)
theorem RH:Rz cash cs (kY cash cs)∧Ny cash cs (kY cash cs)=true:=by
 obtain⟨h1,h2⟩:=GP hs;have hn:=hs.n5;have h12:=hs.c12;refine⟨⟨by omega,by omega,MK hs,fun _=>hs,fun _ _ _ f hf=>?_⟩,?_⟩
 ·obtain⟨y,hy,rfl⟩:=List.mem_map.1 hf
  obtain⟨i,hi,rfl⟩:=List.mem_map.1 hy;rw[kG];exact (wQ hs (List.mem_range.1 hi)).mono (by omega)
 ·unfold Ny
  have hl:(kY cash cs).length=cash.length:=dQ _ _;rw[hs.right,h1,decide_eq_true hl,ahM,ahM,ahJ,ahM,II,h2];intro i hi;have hx:=LJ hs i hi
  have hcs:uU cash cs (fun i=>((agP cash.length).map (ab cash cs).gr).getD i 0) i cs=uU cash cs (ab cash cs).gr i cs:=by
   have hr:=(rightD_iff.1 hs.right).2.2.2
   have key:∀ n (l:List ClR),l.length=n→(∀ c∈l,c∈cs)→uU cash cs (fun i=>((agP cash.length).map (ab cash cs).gr).getD i 0) i l=uU cash cs (ab cash cs).gr i l:=by
    intro n
    induction n with
    | zero=>intro l hl _;rw[List.length_eq_zero_iff.1 hl];rfl
    | succ n ih =>
     intro l hl hm;rcases ag2 l with h0 | ⟨m,c,rfl⟩
     ·subst h0;cases hl
     ·rw[ag3] at *
      simp only[agV,agW] at hl;have hc:=hr c (hm c (by simp));rw[og,og,ih m (by omega) fun y hy=>hm y (by simp [hy])]
      unfold w8;have:((agP cash.length).map (ab cash cs).gr).getD c.1.toNat 0=(ab cash cs).gr c.1.toNat:=kr (ab cash cs).gr 0 (show c.1.toNat<cash.length by omega);simp only[this]
   exact key _ cs rfl fun c hc=>hc
  rw[hcs,hx]
  show _=some ((fL cash.length (ab cash cs).gr).getD i 0);rw[kr (ab cash cs).gr 0 hi]
end
set_option maxHeartbeats 4000000
def NR (l:List Int):List Data:=[.sl (l.map aa)]
def S7 (a:List (List Int)):Prop:=a.length≤1000000∧∀ l∈a,l.length≤1000000
theorem Gx (l:List (List Nat)):l.map nM=(l.map fun r=>r.map fun n=>((n:Nat):Int)).map NR:=by
 rw[ahD];refine ag4 fun r _=>?_
 simp only[nM,NR,Function.comp_apply,ahD]
 rfl
structure HasOK (cash:List Int) (cs:List ClR) (hv pv:List Int) (fl:List (List Int)):Prop where
 s:SmallD cash cs
 h:kY cash cs=hv.map fun n:Int=>ak (n:Rat)
 p:u6 cash cs=pv.map fun n:Int=>ak (n:Rat)
 f:((ab cash cs).frs.map fun r=>r.map fun n=>((n:Nat):Int))=fl
 hi:∀ n∈hv,ca n
 pi:∀ n∈pv,ca n
 o:S7 fl
theorem HasOK.solve {cash:List Int} {cs:List ClR} {hv pv:List Int} {fl:List (List Int)} (h:HasOK cash cs hv pv fl):qb [.sl (cash.map aa),.sl (cs.map clL)]=some (.same (.tup [.agg [.sl ((hv.map fun n:Int=>ak (n:Rat)).map ad),.sl ((pv.map fun n:Int=>ak (n:Rat)).map ad),.sl (fl.map NR)],.int .i64 0])):=by
 have hn:=h.s.n5;have h12:=h.s.c12;have sv:=rY cash cs ⟨by omega,by omega,fun _=>h.s⟩
 unfold FC at sv;rw[if_pos h.s.right,h.h,h.p,Gx,h.f] at sv;exact sv
theorem HasOK.small {cash:List Int} {cs:List ClR} {hv pv:List Int} {fl:List (List Int)} (h:HasOK cash cs hv pv fl):hv.length≤5∧pv.length≤12:=by
 have h1:=congrArg ahN h.h;have h2:=congrArg ahN h.p;unfold kY at h1;unfold u6 at h2;rw[dQ,ag6] at h1;rw[ag6,ag6] at h2;have hn:=h.s.n5;have h12:=h.s.c12;omega
end Go.Mini
namespace Go.Mini
open Classical
def e1:Day:=ab [5,0] [(0,1,0,10),(1,-1,0,4)]
def e2:Day:=ab [0,0] [(0,1,1,10),(1,0,1,10)]
def e4:Day:=ab [9] [(0,-1,0,6),(0,-1,1,2),(0,-1,1,4)]
def e3:Day:=ab [0,0] [(0,1,1,10),(1,0,1,10),(0,-1,0,5)]
def e5:Day:=ab [10,30] [(1,-1,0,25)]
def e6:Day:=ab [10,0] [(0,1,0,30)]
def e7:Day:=ab [30,0] [(0,1,0,30)]
theorem RE:e5.gr 0=10:=by
 have hd:e5.OK:=nZ (by decide);have hcl:e5.cl=[⟨1,-1,0,25⟩]:=rfl;have hc:e5.cash 0=10:=rfl;rw[(iM hd).1 0 (by decide)];simp [hcl,hc,Day.phi,Day.into,sumC,ahq]
theorem IB {d:Day} (hd:d.OK) (hn:d.n=2) (hcl:d.cl=[⟨0,1,0,30⟩]) (h1:d.cash 1=0):d.gr 0=d.cash 0∧d.gr 1=if 30≤d.cash 0 then 30 else pos (d.cash 0):=by
 have S0:d.S 0 0=30:=by simp [hcl,Day.S,sumC,ahq]
 have U1:d.U 0 1=30:=by simp [hcl,Day.U,sumC,ahq]
 have w0:d.w ⟨0,1,0,30⟩=1:=by simp only[Day.w,S0];decide +kernel
 have g0:d.gr 0=d.cash 0:=by
  rw[(iM hd).1 0 (by omega)];simp [hcl,Day.phi,Day.into,sumC,ahq]
 refine⟨g0,?_⟩;rw[(iM hd).1 1 (by omega)];have e0:d.cash 0-0=d.cash 0:=by grind
 simp [hcl,Day.phi,Day.into,Day.pay,sumC,h1,g0,U1,w0,d.U_zero,e0,ahq,ahO,Rat.one_mul]
theorem Q5:e6.gr 1=10:=by
 have h:e6.OK:=nZ (by decide);rw[(IB h rfl rfl rfl).2,show e6.cash 0=10 from rfl]
 decide +kernel
theorem RF:e7.gr 1=30:=by
 have h:e7.OK:=nZ (by decide);rw[(IB h rfl rfl rfl).2,show e7.cash 0=30 from rfl]
 decide +kernel
end Go.Mini
namespace Go.Mini
open Go
set_option maxRecDepth 10000
set_option maxHeartbeats 4000000

end Go.Mini
namespace Go.Mini
open Classical
section
variable {cash:List Int} {cs:List ClR} (hs:SmallD cash cs)
include hs
theorem Lg (i:Nat) (F:Cl→Rat):sumC ((bU cs i).map bs) F=sumC (ab cash cs).cl fun c=>if c.fr=i then F c else 0:=by
 have hr:=(rightD_iff.1 hs.right).2.2.2
 have e:∀ l:List ClR,(∀ c∈l,c∈cs)→sumC ((bU l i).map bs) F=sumC (l.map bs) fun c=>if c.fr=i then F c else 0:=by
  intro l
  induction l with
  | nil=>intro _;rfl
  | cons c l ih =>
   intro hm;have h0:=(hr c (hm c ahP)).1;have ih:=ih fun y hy=>hm y (ahQ _ hy)
   unfold bU at *
   by_cases hc:c.1=(i:Int)
   ·rw[agY (by simpa using hc),ahz,ahz,sumC,sumC,ih,if_pos (by show c.1.toNat=i;omega)]
   ·rw[ag0 (by simpa using hc),ahz,sumC,ih,if_neg (by show ¬ c.1.toNat=i;omega),ahO]
 exact e cs fun c hc=>hc
end
end Go.Mini
namespace Go.Mini
open Go
set_option maxRecDepth 10000
set_option maxHeartbeats 4000000
section
variable {cash:List Int} {cs:List ClR} (hs:SmallD cash cs) {i:Nat}
include hs
end



def f9 (cs:List ClR) (who:Nat):List ClR:=cs.filter fun c=>c.1 != (who:Int)
def dr (cash:List Int) (cs:List ClR) (who:Nat):List Int:=fL cash.length fun i=>cash.getD i 0+bh (bU cs who) (toI i)
def pY (cash:List Int) (cs:List ClR) (who:Nat):Bool:=(dr cash cs who).all fun x=>decide (x≤1000000000000000)
theorem jk (cash:List Int) (cs:List ClR) (who:Nat):(dr cash cs who).length=cash.length:=bT _ _
theorem Ep {cash:List Int} {cs:List ClR} (hs:SmallD cash cs) (j:Nat) {l:List ClR} (hl:∀ c∈l,c∈cs) (hn:l.length≤12):0≤bh l (toI j)∧bh l (toI j)≤536870912:=by
 have:=qE (cs:=l) (F:=toI j) (B:=33554432) (by omega) fun c hc=>by
  have h1:=hs.am c (hl c hc);have h2:=((rightD_iff.1 hs.right).2.2.2 c (hl c hc)).2.2.2.2.2.2.1;unfold toI
  split<;>omega
 omega
theorem Kn {cash:List Int} {cs:List ClR} (hs:SmallD cash cs) (who i:Nat):((bh (bU cs who) (toI i):Int):Rat)=sumC (ab cash cs).cl fun c=>if c.fr=who∧c.to=(i:Int) then c.am else 0:=by
 rw[mH (bU cs who) (toI i) fun c=>if c.to=(i:Int) then c.am else 0]
 ·rw[Lg hs]
  refine cK fun c _=>?_
  by_cases h1:c.fr=who
  ·by_cases h2:c.to=(i:Int)
   ·rw[if_pos h1,if_pos h2,if_pos ⟨h1,h2⟩]
   ·rw[if_pos h1,if_neg h2,if_neg fun h=>h2 h.2]
  ·rw[if_neg h1,if_neg fun h=>h1 h.1]
 ·intro c _
  unfold toI;have e:(bs c).to=c.2.1:=rfl;rw[e]
  split
  ·rfl
  ·rfl
theorem oh {cash:List Int} {cs:List ClR} (hs:SmallD cash cs) (who:Nat):ab (dr cash cs who) (f9 cs who)=(ab cash cs).saved who:=by
 have hr:=(rightD_iff.1 hs.right).2.2.2;have e1:(dr cash cs who).length=cash.length:=jk _ _ _
 have e2:(fun i=>(((dr cash cs who).getD i 0:Int):Rat))=((ab cash cs).saved who).cash:=by
  funext i
  show _=((cash.getD i 0:Int):Rat)+sumC (ab cash cs).cl fun c=>if c.fr=who∧c.to=(i:Int) then c.am else 0
  rw[←Kn hs,←ahw]
  congr 1
  by_cases hi:i<cash.length
  ·exact kr (fun i=>cash.getD i 0+bh (bU cs who) (toI i)) 0 hi
  ·rw[agQ,ahI (by rw[e1];omega),ahR]
   have h1:bh (bU cs who) (toI i)=0:=by
    have key:∀ l:List ClR,(∀ c∈l,c∈cs)→bh l (toI i)=0:=by
     intro l
     induction l with
     | nil=>intro _;rfl
     | cons c l ih =>
      intro hl;have h2:=hr c (hl c ahP);rw[bh,ih fun c hc=>hl c (ahQ _ hc)]
      unfold toI;rw[if_neg (by omega)];rfl
    exact key _ fun c hc=>(own_mem.1 hc).1
   rw[h1,agQ,ahI (by omega),ahR];rfl
 have e3:(f9 cs who).map bs=((ab cash cs).saved who).cl:=by
  rw[vp]
  show _=(cs.map bs).filter _;unfold f9;rw[List.filter_map]
  congr 1
  refine agT fun c hc=>?_
  have h2:=hr c hc
  show (c.1 != (who:Int))=decide (c.1.toNat≠who);rw[Bool.eq_iff_iff,bne_iff_ne,decide_eq_true_eq];omega
 unfold ab;rw[e1,e2,e3]
 rfl
theorem rV {cash:List Int} {cs:List ClR} (hs:SmallD cash cs) {who:Nat} (h:pY cash cs who=true):SmallD (dr cash cs who) (f9 cs who):=by
 have hr:=rightD_iff.1 hs.right;have hn:=hs.n5;have h12:=hs.c12;have hl:(f9 cs who).length≤cs.length:=ag8 _ _;have hm:∀ c∈f9 cs who,c∈cs:=fun c hc=>(List.mem_filter.1 hc).1
 refine⟨rightD_iff.2 ⟨by rw[jk];omega,by omega,fun x hx=>?_,fun c hc=>?_⟩,by rw[jk];exact hn,by omega,fun c hc=>hs.am c (hm c hc)⟩
 ·unfold pY at h
  rw[ahL] at h;refine⟨?_,of_decide_eq_true (h x hx)⟩;obtain⟨i,-,rfl⟩:=List.mem_map.1 hx;have h1:=hs.cash i;have h2:=Ep hs i (l:=bU cs who) (fun c hc=>(own_mem.1 hc).1) (by have:=yp cs who;omega);omega
 ·have:=hr.2.2.2 c (hm c hc)
  rw[jk];exact this
def gV (cs:List ClR) (who:Nat):Int:=bh (bU cs who) fun c=>c.2.2.2
theorem wa {cash:List Int} {cs:List ClR} (hs:SmallD cash cs) (who:Nat):((gV cs who:Int):Rat)=(ab cash cs).U who 10:=by
 have h:=dA hs.right who 10;rw[←h]
 congr 1
 unfold gV aM;have hr:=(rightD_iff.1 hs.right).2.2.2
 have key:∀ l:List ClR,(∀ c∈l,c∈cs)→bh (bU l who) (fun c=>c.2.2.2)=bh l fun c=>if c.1=(who:Int)∧c.2.2.1<((10:Nat):Int) then c.2.2.2 else 0:=by
  intro l
  induction l with
  | nil=>intro _;rfl
  | cons c l ih =>
   intro hl;have h2:=hr c (hl c ahP);have ih:=ih fun c hc=>hl c (ahQ _ hc)
   unfold bU at *
   by_cases hc:c.1=(who:Int)
   ·rw[agY (by simpa using hc),bh,bh,ih,if_pos ⟨hc,by omega⟩]
   ·rw[ag0 (by simpa using hc),bh,ih,if_neg fun h=>hc h.1];omega
 exact key cs fun c hc=>hc
theorem tU {cash:List Int} {cs:List ClR} (hs:SmallD cash cs) {l:List ClR} (hl:∀ c∈l,c∈cs) (hn:l.length≤12):0≤bh l (fun c=>c.2.2.2)∧bh l (fun c=>c.2.2.2)≤536870912:=by
 have:=qE (cs:=l) (F:=fun c=>c.2.2.2) (B:=33554432) (by omega) fun c hc=>by
  have h1:=hs.am c (hl c hc);have h2:=((rightD_iff.1 hs.right).2.2.2 c (hl c hc)).2.2.2.2.2.2.1;omega
 omega
noncomputable def kP (cash:List Int) (cs:List ClR) (who:Nat):Rat:=(ab cash cs).U who 10-((ab cash cs).saved who).gr who
noncomputable def dL (cash:List Int) (cs:List ClR) (who:Nat):Rat:=pos (kP cash cs who)
noncomputable def lN (cash:List Int) (cs:List ClR) (who:Int):Data:=if cE cash cs=true∧0≤who∧who<cash.length then (if pY cash cs who.toNat=true then .tup [.agg (ad (ak (dL cash cs who.toNat))),.int .i64 0] else .tup [.agg (ad bz),.int .i64 6]) else .tup [.agg (ad bz),.int .i64 1]
theorem EJ {cash:List Int} {cs:List ClR} (hs:SmallD cash cs) {who:Nat} (hw:who<cash.length) (h:pY cash cs who=true):szR 483 (kP cash cs who)∧szR 483 (dL cash cs who)∧0≤dL cash cs who:=by
 have h1:=wQ (rV hs h) (i:=who) (by rw[jk];exact hw);rw[oh hs] at h1;have h2:=hs.upto who 10
 have h3:szR 29 ((ab cash cs).U who 10):=by
  rw[←dA hs.right];exact ng (by have:=hs.upto who ((10:Nat):Int);omega)
 have h4:szR 483 (kP cash cs who):=by
  unfold kP;rw[Rat.sub_eq_add_neg];exact (Kc h3 (nf h1)).mono (by omega)
 refine⟨h4,?_,iq _⟩;unfold dL pos
 split
 ·exact (show szR 1 0 from⟨by decide,by decide⟩).mono (by omega)
 ·exact h4
def GH (l:List Int):Int:=l.foldl max (l.headD 0)
theorem qF (B:Int):∀ (l:List Int) (a:Int),l.foldl max a≤B↔a≤B∧∀ x∈l,x≤B
 | [],a=>by simp
 | b::l,a=>by
  rw[List.foldl_cons,qF B l];simp only[List.mem_cons,forall_eq_or_imp,ahS]
  constructor
  ·rintro⟨h1,h2⟩;split at h1<;>exact⟨by omega,by omega,h2⟩
  ·rintro⟨h1,h2,h3⟩;exact⟨by split<;>omega,h3⟩
theorem Jf {l:List Int} (h:0<l.length) (B:Int):decide (GH l>B) = !l.all fun x=>decide (x≤B):=by
 obtain⟨a,r,rfl⟩:∃ a r,l=a::r:=by
  cases l with
  | nil=>simp at h
  | cons a r=>exact⟨a,r,rfl⟩
 have h1:=qF B (a::r) a;have e:GH (a::r)=(a::r).foldl max a:=rfl;rw[e]
 by_cases h2:(a::r).foldl max a≤B
 ·rw[decide_eq_false (by omega)]
  symm
  rw[Bool.not_eq_false',ahL];exact fun x hx=>decide_eq_true ((h1.1 h2).2 x hx)
 ·rw[decide_eq_true (by omega)]
  symm
  rw[ahK,List.all_eq_false];have h3:¬ ∀ x∈a::r,x≤B:=fun hh=>h2 (h1.2 ⟨hh a ahP,hh⟩)
  simp only[Classical.not_forall] at h3;obtain⟨x,hx,hn⟩:=h3;exact⟨x,hx,by simpa using hn⟩
noncomputable def CK:List Data→Option PRes:=FF (α:=List Int) (fun (l:List Int)=>([.sl (l.map aa)]:List Data)) (fun (l:List Int)=>aG (0<l.length∧l.length≤1000000) (.same (.int .i64 (GH l))))
theorem DA:∀ a b:List Int,(fun (l:List Int)=>([.sl (l.map aa)]:List Data)) a=(fun (l:List Int)=>([.sl (l.map aa)]:List Data)) b→a=b:=by
  intro l1 l2 h;simp only[List.cons.injEq,Data.sl.injEq,and_true] at h;exact af ai _ _ h
@[go_sem] theorem Gi (l:List Int) (hc:0<l.length∧l.length≤1000000):CK [.sl (l.map aa)]=some (.same (.int .i64 (GH l))):=(aV DA l).trans (an hc _)
theorem NJ (T:Tab)  (l:List Int) (hc:0<l.length∧l.length≤1000000) :
  wp T mf_slices_Max_int.body (bG mf_slices_Max_int.res (.same (.int .i64 (GH l)))) ⟨ax [.dat (.sl (l.map aa))],emp⟩:=by
 refine ap ?_;simp only[mf_slices_Max_int];obtain⟨h0,hl⟩:=hc;obtain⟨a,hx⟩:∃ a,l[0]?=some a:=⟨_,ahd h0⟩;have d0:decide ((l.length:Int)<1)=false:=decide_eq_false (by omega)
 have hh:l.headD 0=a:=by
  cases l with
  | nil=>simp at h0
  | cons b r=>simpa using hx
 have h1:(l.take 1).foldl max a=a:=by
  cases l with
  | nil=>simp at h0
  | cons b r =>
   have:b=a:=by simpa using hx
   subst this;simp
 unfold GH;rw[hh];simp only[go_sem,go_sem_proc,ahb,hx,h0,d0,aa,ag6,ahi];refine ae [0] [] (fun (i:Nat) tm m=>i≤l.length∧tm 4 = .dat (.int .i64 i)∧tm 3 = .dat (.int .i64 ((l.take i).foldl max a))) (fun i=>l.length-i) 1 (by refine⟨by omega,rfl,by rw[h1];rfl⟩) ?_
 intro vs ms hvs hms;simp only[go_sem,go_sem_proc,ahb,ag6] at hvs hms;subst hvs hms;rintro i tm m hk-⟨hi,e4,e3⟩;simp only[go_sem,go_sem_proc,ahb,List.cons.injEq] at hk;have e0:=hk;rcases ahc (i<l.length) with hlt | hge
 ·have d1:decide ((i:Int)<(l.length:Int))=true:=decide_eq_true (by omega)
  have w3:IntKind.i64.wrap ((i:Int)+1)=((i+1:Nat):Int):=by rw[aj _ (by omega) (by omega)];omega
  obtain⟨y,hy⟩:∃ y,l[i]?=some y:=⟨_,ahd hlt⟩;have htk:(l.take (i+1)).foldl max a=max ((l.take i).foldl max a) y:=by rw[ahf,hy,Option.toList_some,ahp];rfl
  refine qI ?_
  repeat' (intro h<;>simp only[h,go_sem,go_sem_proc,ahb,e0,e3,e4,hy,d1,w3,aa,ag6,ahi]<;>try refine qS ?_ ?_)
  refine⟨i+1,by omega,by omega,rfl,?_⟩
  rw[htk,ahS];generalize (l.take i).foldl max a=z at *
  congr 2
  split<;>split<;>omega
 ·have d1:decide ((i:Int)<(l.length:Int))=false:=decide_eq_false (by omega)
  rw[ahj (by omega)] at e3;refine qI ?_
  repeat' (intro h<;>simp only[h,go_sem,go_sem_proc,ahb,e0,e3,e4,d1,ag6]<;>try refine qS ?_ ?_)
theorem Jr {n:Int} (h:ca n):ud [.int .i64 n,.int .i64 1]=some (.same (.tup [.agg (ad (ak (n:Rat))),.int .i64 0])):=by
 have:=Ai n 1 ⟨h,Ig⟩;rw[qq h] at this;exact this
def svF (cash:List Int) (cs:List ClR) (who i:Nat):Nat→Int:=fun j=>cash.getD j 0+bh (bU (cs.take i) who) (toI j)
theorem R4 (T:Tab) {K:bH→St→Prop} {kk:List Todo} (cash:List Int) (cs:List ClR) (hs:SmallD cash cs) (who:Nat) (x6:Option (Nat × List MV)) (g48:Nat) (tm:Nat→MV) (m:Mem)
  (e2:tm 2 = .dat (.int .i64 who)) (e6:tm 6 = .ptr 221006 0 0) (e8:tm 8 = .ref 221034 0 1 0 cash.length) (e9:tm 9 = .dat (.int .i64 0)) (e10:tm 10 = .ref 221048 g48 4 0 0) (e35:tm 35 = .dat (.sl (cs.map clL))) (e36:tm 36 = .dat (.int .i64 cs.length)) (e37:tm 37 = .dat (.int .i64 0))
  (m6:m 221006=x6) (m34:m 221034=some (0,(fL cash.length (svF cash cs who 0)).map iC)) (m48:m 221048=some (g48,[]))
  (hK:∀ tm' m' g,tm' 2 = .dat (.int .i64 who)→tm' 6 = .ptr 221006 0 0→tm' 8 = .ref 221034 0 1 0 cash.length→tm' 9 = .dat (.int .i64 (gV cs who))→tm' 10 = .ref 221048 g 4 0 (f9 cs who).length→m' 221006=x6→m' 221034=some (0,(dr cash cs who).map iC)→m' 221048=some (g,ay clL (f9 cs who))→kont T K kk (.exit 0) ⟨tm',m'⟩) :
  wp T (mf_rescue_Least.body.sub [1,1,1,1,0,1,0,0]) (kont T K kk) ⟨tm,m⟩:=by
 simp only[mf_rescue_Least,MCode.sub];have hn:=hs.n5;have h12:=hs.c12;have hrr:=(rightD_iff.1 hs.right).2.2.2;refine ae [2,6,8,35,36] [221006] (fun ((i,g):Nat × Nat) tm m=>i≤cs.length∧tm 37 = .dat (.int .i64 i)∧tm 9 = .dat (.int .i64 (gV (cs.take i) who))∧tm 10 = .ref 221048 g 4 0 (f9 (cs.take i) who).length∧m 221048=some (g,ay clL (f9 (cs.take i) who))∧m 221034=some (0,(fL cash.length (svF cash cs who i)).map iC)) (fun (i,_)=>cs.length-i) (0,g48) (by refine⟨by omega,e37,?_,?_,?_,m34⟩<;>rw[aha]<;>first | exact e9 | exact e10 | exact m48) ?_
 intro vs ms hvs hms;simp only[go_sem,go_sem_proc,ahb,e2,e6,e8,e35,e36,m6] at hvs hms;subst hvs hms;clear e2 e6 e8 e9 e10 e35 e36 e37 m6 m34 m48 tm m;rintro⟨i,g⟩ tm m hk hm ⟨hi,e37,e9,e10,m48,m34⟩;simp only[go_sem,go_sem_proc,ahb,List.cons.injEq] at hk hm;obtain⟨e2,e6,e8,e35,e36⟩:=hk;have m6:=hm;rcases ahc (i<cs.length) with hlt | hge
 ·have d1:decide ((i:Int)<(cs.length:Int))=true:=decide_eq_true (by omega)
  have w3:IntKind.i64.wrap ((i:Int)+1)=((i+1:Nat):Int):=by rw[aj _ (by omega) (by omega)];omega
  obtain⟨⟨c1,c2,c3,c4⟩,hx⟩:∃ c,cs[i]?=some c:=⟨_,ahd hlt⟩;have hcm:=ahe hx;have hrc:=hrr _ hcm;have hac:=hs.am _ hcm;dsimp only at hrc hac;have htk:cs.take (i+1)=cs.take i++[(c1,c2,c3,c4)]:=by rw[ahf,hx];rfl
  have htm:∀ n,∀ c∈bU (cs.take n) who,c∈cs:=fun n c hc=>List.mem_of_mem_take (own_mem.1 hc).1
  have htl:∀ n,(bU (cs.take n) who).length≤12:=fun n=>by
   have h1:=yp (cs.take n) who;have h2:(cs.take n).length≤cs.length:=by rw[ahg];omega
   omega
  have hsl:(f9 (cs.take i) who).length≤12:=by
   have h1:(f9 (cs.take i) who).length≤(cs.take i).length:=ag8 _ _;have h2:(cs.take i).length≤cs.length:=by rw[ahg];omega
   omega
  have hw1:=tU hs (htm (i+1)) (htl (i+1));rcases q1:(c1==(who:Int))
  ·have hown:bU (cs.take (i+1)) who=bU (cs.take i) who:=by
    rw[htk,vf];have:bU [(c1,c2,c3,c4)] who=[]:=by unfold bU;rw[ag0 (by simpa using q1)];rfl
    rw[this,ag1]
   have hsv:f9 (cs.take (i+1)) who=f9 (cs.take i) who++[(c1,c2,c3,c4)]:=by
    unfold f9;rw[htk,agX,agY (by simpa [bne] using q1),agZ]
   have hap:=dk kh sD 221048 g 32 (f9 (cs.take i) who) (c1,c2,c3,c4) (cs:=[.dat (.int .i64 c1),.dat (.int .i64 c2),.dat (.int .i64 c3),.dat (.int .i64 c4)]) rfl (by omega) (by omega);rw[←hsv] at hap;have hl1:(f9 (cs.take (i+1)) who).length=(f9 (cs.take i) who).length+1:=by rw[hsv,agV];rfl
   have hF:svF cash cs who (i+1)=svF cash cs who i:=by unfold svF;rw[hown]
   refine qI ?_
   repeat' (intro h<;>simp only[h,go_sem,go_sem_proc,ahb,e2,e6,e8,e9,e10,e35,e36,e37,m6,m34,m48,hx,d1,w3,q1,hap,clL,ag6,ahi,bne,ahJ]<;>try refine qS ?_ ?_)
   exact⟨(i+1,g+1),by dsimp only;omega,by dsimp only;omega,rfl,by unfold gV;rw[hown],by rw[hl1],rfl,by rw[hF]⟩
  ·have hown:bU (cs.take (i+1)) who=bU (cs.take i) who++[(c1,c2,c3,c4)]:=by
    rw[htk,vf];have:bU [(c1,c2,c3,c4)] who=[(c1,c2,c3,c4)]:=by unfold bU;rw[agY (by simpa using q1)];rfl
    rw[this]
   have hsv:f9 (cs.take (i+1)) who=f9 (cs.take i) who:=by
    unfold f9;rw[htk,agX,ag0 (by simpa [bne] using q1),agZ,ag1]
   have hws:gV (cs.take (i+1)) who=gV (cs.take i) who+c4:=by unfold gV;rw[hown,kH]
   have hw0:=tU hs (htm i) (htl i)
   have w4:IntKind.i64.wrap (gV (cs.take i) who+c4)=gV (cs.take (i+1)) who:=by
    rw[hws];unfold gV at *;rw[aj _ (by omega) (by omega)]
   rcases q2:decide (c2≥0)
   ·have hF:(fL cash.length (svF cash cs who (i+1)))=fL cash.length (svF cash cs who i):=bK fun j _=>by
     unfold svF;have:toI j (c1,c2,c3,c4)=0:=by unfold toI;rw[if_neg (by dsimp only;have:=of_decide_eq_false q2;omega)]
     rw[hown,kH,this,ahT]
    refine qI ?_
    repeat' (intro h<;>simp only[h,go_sem,go_sem_proc,ahb,e2,e6,e8,e9,e10,e35,e36,e37,m6,m34,m48,hx,d1,w3,w4,q1,q2,clL,ag6,ahi,bne,aho]<;>try refine qS ?_ ?_)
    exact⟨(i+1,g),by dsimp only;omega,by dsimp only;omega,rfl,rfl,by rw[hsv],by rw[hsv],by rw[hF]⟩
   ·obtain⟨t,rfl⟩:∃ t:Nat,c2=(t:Int):=⟨c2.toNat,by have:=of_decide_eq_true q2;omega⟩
    have htn:t<cash.length:=by omega
    have hF:(fL cash.length (svF cash cs who (i+1)))=fL cash.length fun j=>if j=t then svF cash cs who i t+c4 else svF cash cs who i j:=bK fun j _=>by
     unfold svF;rw[hown,kH]
     by_cases hj:j=t
     ·subst hj
      have:toI j (c1,(j:Int),c3,c4)=c4:=by unfold toI;rw[if_pos rfl]
      rw[if_pos rfl,this];omega
     ·have:toI j (c1,(t:Int),c3,c4)=0:=by unfold toI;rw[if_neg (by dsimp only;omega)]
      rw[if_neg hj,this,ahT]
    have hb1:=Ep hs t (htm i) (htl i);have hb2:=hs.cash t;have wA:IntKind.i64.wrap (svF cash cs who i t+c4)=svF cash cs who i t+c4:=by unfold svF;rw[aj _ (by omega) (by omega)]
    have t1:=iget htn (svF cash cs who i);have t2:=ilen cash.length (svF cash cs who i);have t3:=iset htn (svF cash cs who i) (svF cash cs who i t+c4);rw[←hF] at t3;have l1:t+1≤cash.length:=by omega
    generalize hv:(fL cash.length (svF cash cs who i)).map iC=R at *;generalize hv2:(fL cash.length (svF cash cs who (i+1))).map iC=R2 at *;generalize svF cash cs who i t=S1 at *;refine qI ?_
    repeat' (intro h<;>simp only[h,go_sem,go_sem_proc,ahb,e2,e6,e8,e9,e10,e35,e36,e37,m6,m34,m48,hx,d1,w3,w4,wA,q1,q2,t1,t2,t3,htn,l1,clL,ahh,ag6,ahi,bne,aho]<;>try refine qS ?_ ?_)
    exact⟨(i+1,g),by dsimp only;omega,by dsimp only;omega,rfl,rfl,by rw[hsv],by rw[hsv],by rw[hv2]⟩
 ·have d1:decide ((i:Int)<(cs.length:Int))=false:=decide_eq_false (by omega)
  obtain rfl:i=cs.length:=by omega
  have hF:fL cash.length (svF cash cs who cs.length)=dr cash cs who:=bK fun j _=>by unfold svF;rw[ahm]
  rw[hF] at m34;rw[ahm] at e9 e10 m48;refine qI ?_
  repeat' (intro h<;>simp only[h,go_sem,go_sem_proc,ahb,e2,e6,e8,e9,e10,e35,e36,e37,d1]<;>try refine qS ?_ ?_)
  refine hK _ _ g ?_ ?_ ?_ ?_ ?_ m6 m34 m48<;>simp only[aH,ahk,if_false,e2,e6,e8,e9,e10]
end Go.Mini
