/- A part of the proof. -/
import Derived.Test.YtdbkjjoedjfmpaaM11
import Derived.Test.YtdbkjjoedjfmpaaM14
import Derived.Test.YtdbkjjoedjfmpaaProg
import Derived.KernelRfl
set_option linter.unusedSimpArgs false
set_option linter.unusedVariables false
open List renaming range → ahK, map_cons → ahN, map_nil → ahO, filter_cons → ahR, take_zero → ahT, getElem?_eq_getElem → ahV, take_add_one → ahW, length_take → ahX, filter_append → ahY, filter_cons_of_neg → ahZ, filter_nil → ah0, append_nil → ah1, length_map → ah2, getElem?_map → ah3, filter_cons_of_pos → ah4, length_append → ah5, take_of_length_le → ah6, mem_of_getElem? → ah7, getD_eq_getElem?_getD → ah9, mem_map_of_mem → aib, length_filter_le → aic, length_range → aid, any_eq_true → aie, flatten_append → aii, count_append → aij
open Rat renaming add_zero → ahL, zero_add → ahM
open Bool renaming false_eq_true → ahP, not_true → ah8, and_eq_true → aif, not_false → ail
open Option renaming bind_none → ahQ, toList_some → aig
open Prod renaming ext → ahS
open Decidable renaming em → ahU
open Int renaming toNat_natCast → aia
open Nat renaming reduceEqDiff → aih, mul_one → aik, le_of_ble_eq_true → aim
namespace Go.Mini
open Classical
theorem tJ {d:Day} {f:Nat→Nat} {l:List Nat} (h:d.falls f=l) (hl:l≠[]) (k:Nat):(d.rounds (k+1) f).1=l::(d.rounds k (d.fallen f (d.top f))).1∧(d.rounds (k+1) f).2=(d.rounds k (d.fallen f (d.top f))).2:=by
 rw[Day.rounds,if_neg (by rw[h];exact hl),h];exact⟨rfl,rfl⟩
theorem pu {d:Day} (hn:d.n=2) (f:Nat→Nat):d.falls f=(if d.top f 0<d.U 0 (f 0) then [0] else [])++if d.top f 1<d.U 1 (f 1) then [1] else []:=by
 unfold Day.falls;rw[hn,show ahK 2=[0,1] from rfl]
 by_cases h0:d.top f 0<d.U 0 (f 0)<;>by_cases h1:d.top f 1<d.U 1 (f 1)<;>simp [h0,h1]
theorem Ja {d:Day} (hn:d.n=1) (f:Nat→Nat):d.falls f=(if d.top f 0<d.U 0 (f 0) then [0] else []):=by
 unfold Day.falls;rw[hn,show ahK 1=[0] from rfl]
 by_cases h0:d.top f 0<d.U 0 (f 0)<;>simp [h0]
theorem oo {d:Day} {f:Nat→Nat} {h:Nat→Rat} {i:Nat} (hh:¬ h i<d.U i (f i)):d.fallen f h i=f i:=if_neg fun x=>hh x.2
theorem mC {d:Day} {f:Nat→Nat} {h:Nat→Rat} {i r:Nat} (hi:i<d.n) (hh:h i<d.U i (f i)) (hr:r<10) (h1:∀ j,j<r→d.U i (j+1)≤h i) (h2:h i<d.U i (r+1)):d.fallen f h i=r:=by
 unfold Day.fallen;rw[if_pos ⟨hi,hh⟩]
 have:∀ k,k≤10→10-k≤r→d.fallRank h i k=r:=by
  intro k
  induction k with
  | zero=>intro _ h;omega
  | succ k ih =>
   intro hk hle;rw[Day.fallRank]
   by_cases he:10-(k+1)=r
   ·rw[if_pos (by rw[he];exact h2),he]
   ·rw[if_neg (by have:=h1 (10-(k+1)) (by omega);grind)]
    exact ih (by omega) (by omega)
 exact this 10 (by omega) (by omega)
theorem fH {d:Day} (hd:d.OK) {f:Nat→Nat} (hr:Reach d f):∀ i,i<d.n→d.top f i=d.into (d.q f (d.top f)) i:=by
 obtain⟨g,h1,h2,h3⟩:=Day.top_spec (hd.hex f hr);exact h2
theorem Qu {d:Day} (hn:d.n=2) {f1:Nat→Nat} {l:List Nat} (h:d.falls (fun _=>10)=l) (hl:l≠[]) (hf:d.fallen (fun _=>10) (d.top fun _=>10)=f1) (h1:d.falls f1=[]):d.frs=[l]∧d.gr=d.top f1:=by
 have h2:=tJ h hl 19;rw[hf,d.rounds_stop h1] at h2;unfold Day.frs Day.gr Day.fend;rw[hn];exact⟨h2.1,by rw[show 10*2=19+1 from rfl,h2.2]⟩
theorem Qz {d:Day} (hn:d.n=1) {f1:Nat→Nat} {l:List Nat} (h:d.falls (fun _=>10)=l) (hl:l≠[]) (hf:d.fallen (fun _=>10) (d.top fun _=>10)=f1) (h1:d.falls f1=[]):d.frs=[l]∧d.gr=d.top f1:=by
 have h2:=tJ h hl 9;rw[hf,d.rounds_stop h1] at h2;unfold Day.frs Day.gr Day.fend;rw[hn];exact⟨h2.1,by rw[show 10*1=9+1 from rfl,h2.2]⟩
def e1:Day:=ab [5,0] [(0,1,0,10),(1,-1,0,4)]
theorem Rx:e1.OK:=mn (by decide)
theorem ud:e1.cl=[⟨0,1,0,10⟩,⟨1,-1,0,4⟩]:=rfl
theorem SV:e1.cash 0=5∧e1.cash 1=0:=⟨rfl,rfl⟩
theorem Qj:e1.gr 0=5∧e1.gr 1=5∧e1.frs=[[0]]:=by
 have hd:=Rx;obtain⟨c0,c1⟩:=SV;have r0:=Reach.start hd;have U0:∀ r,0<r→e1.U 0 r=10:=fun r hr=>by simp [ud,Day.U,sumC,ahL,ahM,hr]
 have U1:∀ r,0<r→e1.U 1 r=4:=fun r hr=>by simp [ud,Day.U,sumC,ahL,ahM,hr]
 have S0:e1.S 0 0=10:=by simp [ud,Day.S,sumC,ahL,ahM]
 have w0:e1.w ⟨0,1,0,10⟩=1:=by simp only[Day.w,S0];decide +kernel
 have t0:e1.top (fun _=>10) 0=5:=by rw[fH hd r0 0 (by decide)];simp [ud,Day.into,Day.q,sumC,c0,ahL,ahM]
 have t1:e1.top (fun _=>10) 1=10:=by rw[fH hd r0 1 (by decide)];simp [ud,Day.into,Day.q,sumC,c1,ahL,ahM]
 have f1:e1.falls (fun _=>10)=[0]:=by
  rw[pu rfl,t0,t1,U0 10 (by omega),U1 10 (by omega),if_pos (by decide +kernel),if_neg (by decide +kernel)];rfl
 have r1:=r0.next hd hd.hex;have g0:e1.fallen (fun _=>10) (e1.top fun _=>10) 0=0:=mC (by decide) (by rw[t0,U0 10 (by omega)];decide +kernel) (by omega) (fun j hj=>by omega) (by rw[t0,U0 1 (by omega)];decide +kernel);have g1:e1.fallen (fun _=>10) (e1.top fun _=>10) 1=10:=oo (by rw[t1,U1 10 (by omega)];decide +kernel);generalize hF:e1.fallen (fun _=>10) (e1.top fun _=>10)=F at *;have s0:e1.top F 0=5:=by rw[fH hd r1 0 (by decide)];simp [ud,Day.into,Day.q,sumC,c0,ahL,ahM]
 have s1:e1.top F 1=5:=by
  rw[fH hd r1 1 (by decide)];have hp:pos (5-0)=5:=by decide +kernel
  simp [ud,Day.into,Day.q,sumC,c1,g0,g1,w0,s0,e1.U_zero,hp,ahL,ahM]
  try grind
 have f2:e1.falls F=[]:=by
  rw[pu rfl,s0,s1,g0,g1,e1.U_zero,U1 10 (by omega),if_neg (by decide +kernel),if_neg (by decide +kernel)];rfl
 obtain⟨h1,h2⟩:=Qu rfl f1 (by decide) hF f2;rw[h2];exact⟨s0,s1,h1⟩
def e2:Day:=ab [0,0] [(0,1,1,10),(1,0,1,10)]
theorem QH:e2.OK:=mn (by decide)
theorem Er:e2.cl=[⟨0,1,1,10⟩,⟨1,0,1,10⟩]:=rfl
theorem SX:e2.cash 0=0∧e2.cash 1=0:=⟨rfl,rfl⟩
theorem Re:e2.gr 0=10∧e2.gr 1=10∧e2.frs=[]:=by
 have hd:=QH;obtain⟨c0,c1⟩:=SX;have r0:=Reach.start hd;have U0:∀ r,1<r→e2.U 0 r=10:=fun r hr=>by simp [Er,Day.U,sumC,ahL,ahM,hr]
 have U1:∀ r,1<r→e2.U 1 r=10:=fun r hr=>by simp [Er,Day.U,sumC,ahL,ahM,hr]
 have t0:e2.top (fun _=>10) 0=10:=by rw[fH hd r0 0 (by decide)];simp [Er,Day.into,Day.q,sumC,c0,ahL,ahM]
 have t1:e2.top (fun _=>10) 1=10:=by rw[fH hd r0 1 (by decide)];simp [Er,Day.into,Day.q,sumC,c1,ahL,ahM]
 have f1:e2.falls (fun _=>10)=[]:=by
  rw[pu rfl,t0,t1,U0 10 (by omega),U1 10 (by omega),if_neg (by decide +kernel)];rfl
 have h1:=e2.rounds_stop f1 (10*e2.n);unfold Day.gr Day.fend Day.frs;rw[h1];exact⟨t0,t1,rfl⟩
def e4:Day:=ab [9] [(0,-1,0,6),(0,-1,1,2),(0,-1,1,4)]
theorem QK:e4.OK:=mn (by decide)
theorem EB:e4.cl=[⟨0,-1,0,6⟩,⟨0,-1,1,2⟩,⟨0,-1,1,4⟩]:=rfl
theorem SZ:e4.cash 0=9:=rfl
theorem Qs:e4.gr 0=9∧e4.frs=[[0]]:=by
 have hd:=QK;have c0:=SZ;have r0:=Reach.start hd;have tt:∀ f,Reach e4 f→e4.top f 0=9:=fun f hr=>by rw[fH hd hr 0 (by decide)];simp [EB,Day.into,Day.q,sumC,c0,ahL,ahM]
 have U10:e4.U 0 10=12:=by simp only[EB,Day.U,sumC];decide +kernel
 have U1:e4.U 0 1=6:=by simp only[EB,Day.U,sumC];decide +kernel
 have U2:e4.U 0 2=12:=by simp only[EB,Day.U,sumC];decide +kernel
 have t0:=tt _ r0
 have f1:e4.falls (fun _=>10)=[0]:=by
  rw[Ja rfl,t0,U10,if_pos (by decide +kernel)]
 have r1:=r0.next hd hd.hex;have g0:e4.fallen (fun _=>10) (e4.top fun _=>10) 0=1:=mC (by decide) (by rw[t0,U10];decide +kernel) (by omega) (fun j hj=>by rw[show j=0 by omega,t0,U1];decide +kernel) (by rw[t0,U2];decide +kernel);generalize hF:e4.fallen (fun _=>10) (e4.top fun _=>10)=F at *;have s0:=tt _ r1
 have f2:e4.falls F=[]:=by
  rw[Ja rfl,s0,g0,U1,if_neg (by decide +kernel)]
 obtain⟨h1,h2⟩:=Qz rfl f1 (by decide) hF f2;rw[h2];exact⟨s0,h1⟩
theorem Rz {d:Day} (hn:d.n=2) {f1 f2 f3:Nat→Nat} {l1 l2 l3:List Nat} (h1:d.falls (fun _=>10)=l1) (hl1:l1≠[]) (hf1:d.fallen (fun _=>10) (d.top fun _=>10)=f1) (h2:d.falls f1=l2) (hl2:l2≠[]) (hf2:d.fallen f1 (d.top f1)=f2) (h3:d.falls f2=l3) (hl3:l3≠[]) (hf3:d.fallen f2 (d.top f2)=f3) (h4:d.falls f3=[]):d.frs=[l1,l2,l3]∧d.gr=d.top f3:=by
 have k1:=tJ h1 hl1 19;have k2:=tJ h2 hl2 18;have k3:=tJ h3 hl3 17;rw[hf1] at k1;rw[hf2] at k2;rw[hf3,d.rounds_stop h4] at k3;unfold Day.frs Day.gr Day.fend;rw[hn];refine⟨?_,?_⟩
 ·rw[show 10*2=19+1 from rfl,k1.1,show 19=18+1 from rfl,k2.1,show 18=17+1 from rfl,k3.1]
 ·rw[show 10*2=19+1 from rfl,k1.2,show 19=18+1 from rfl,k2.2,show 18=17+1 from rfl,k3.2]
def e3:Day:=ab [0,0] [(0,1,1,10),(1,0,1,10),(0,-1,0,5)]
theorem RK:e3.OK:=mn (by decide)
theorem kw:e3.cl=[⟨0,1,1,10⟩,⟨1,0,1,10⟩,⟨0,-1,0,5⟩]:=rfl
theorem SF:e3.cash 0=0∧e3.cash 1=0:=⟨rfl,rfl⟩
theorem KM {x y:Rat} (h:x=pos y):(y≤0∧x=0)∨(0≤y∧x=y):=by
 unfold pos at h
 split at h
 ·left;constructor<;>grind
 ·right;constructor<;>grind
theorem Q7:e3.gr 0=0∧e3.gr 1=0∧e3.frs=[[0],[1],[0]]:=by
 have hd:=RK;obtain⟨c0,c1⟩:=SF;have r0:=Reach.start hd;have U01:e3.U 0 1=5:=by simp only[kw,Day.U,sumC];decide +kernel
 have U02:e3.U 0 2=15:=by simp only[kw,Day.U,sumC];decide +kernel
 have U0:e3.U 0 10=15:=by simp only[kw,Day.U,sumC];decide +kernel
 have U11:e3.U 1 1=0:=by simp only[kw,Day.U,sumC];decide +kernel
 have U12:e3.U 1 2=10:=by simp only[kw,Day.U,sumC];decide +kernel
 have U1:e3.U 1 10=10:=by simp only[kw,Day.U,sumC];decide +kernel
 have S01:e3.S 0 1=10:=by simp only[kw,Day.S,sumC];decide +kernel
 have S11:e3.S 1 1=10:=by simp only[kw,Day.S,sumC];decide +kernel
 have w0:e3.w ⟨0,1,1,10⟩=1:=by simp only[Day.w,S01];decide +kernel
 have w1:e3.w ⟨1,0,1,10⟩=1:=by simp only[Day.w,S11];decide +kernel
 have t0:e3.top (fun _=>10) 0=10:=by rw[fH hd r0 0 (by decide)];simp [kw,Day.into,Day.q,sumC,c0,ahL,ahM]
 have t1:e3.top (fun _=>10) 1=10:=by rw[fH hd r0 1 (by decide)];simp [kw,Day.into,Day.q,sumC,c1,ahL,ahM]
 have f1:e3.falls (fun _=>10)=[0]:=by
  rw[pu rfl,t0,t1,U0,U1,if_pos (by decide +kernel),if_neg (by decide +kernel)];rfl
 have r1:=r0.next hd hd.hex;have g0:e3.fallen (fun _=>10) (e3.top fun _=>10) 0=1:=mC (by decide) (by rw[t0,U0];decide +kernel) (by omega) (fun j hj=>by rw[show j=0 by omega,t0,U01];decide +kernel) (by rw[t0,U02];decide +kernel);have g1:e3.fallen (fun _=>10) (e3.top fun _=>10) 1=10:=oo (by rw[t1,U1];decide +kernel);generalize hF:e3.fallen (fun _=>10) (e3.top fun _=>10)=F at *;have s0:e3.top F 0=10:=by rw[fH hd r1 0 (by decide)];simp [kw,Day.into,Day.q,sumC,c0,g1,ahL,ahM]
 have s1:e3.top F 1=5:=by
  have hp:pos (10-5)=5:=by decide +kernel
  rw[fH hd r1 1 (by decide)];simp [kw,Day.into,Day.q,sumC,c1,g0,w0,s0,U01,hp,ahL,ahM]
  try grind
 have f2:e3.falls F=[1]:=by
  rw[pu rfl,s0,s1,g0,g1,U01,U1,if_neg (by decide +kernel),if_pos (by decide +kernel)];rfl
 have r2:=r1.next hd hd.hex;have k0:e3.fallen F (e3.top F) 0=1:=(oo (by rw[s0,g0,U01];decide +kernel)).trans g0;have k1:e3.fallen F (e3.top F) 1=1:=mC (by decide) (by rw[s1,g1,U1];decide +kernel) (by omega) (fun j hj=>by rw[show j=0 by omega,s1,U11];decide +kernel) (by rw[s1,U12];decide +kernel);generalize hG:e3.fallen F (e3.top F)=G at *;have x0:=fH hd r2 0 (by decide);have x1:=fH hd r2 1 (by decide);simp [kw,Day.into,Day.q,sumC,c0,c1,k0,k1,w0,w1,U01,U11,ahL,ahM,Rat.one_mul] at x0 x1
 have v:e3.top G 0=0∧e3.top G 1=0:=by
  rcases KM x0 with ⟨y1,y2⟩ | ⟨y1,y2⟩<;>rcases KM x1 with ⟨z1,z2⟩ | ⟨z1,z2⟩<;>constructor<;>grind
 obtain⟨v0,v1⟩:=v
 have f3:e3.falls G=[0]:=by
  rw[pu rfl,v0,v1,k0,k1,U01,U11,if_pos (by decide +kernel),if_neg (by decide +kernel)];rfl
 have r3:=r2.next hd hd.hex;have m0:e3.fallen G (e3.top G) 0=0:=mC (by decide) (by rw[v0,k0,U01];decide +kernel) (by omega) (fun j hj=>by omega) (by rw[v0,U01];decide +kernel);have m1:e3.fallen G (e3.top G) 1=1:=(oo (by rw[v1,k1,U11];decide +kernel)).trans k1;generalize hH:e3.fallen G (e3.top G)=H at *
 have p1:e3.top H 1=0:=by
  rw[fH hd r3 1 (by decide)];simp [kw,Day.into,Day.q,sumC,c1,m0,ahL,ahM]
 have p0:e3.top H 0=0:=by
  have hp:pos (0-0)=0:=by decide +kernel
  rw[fH hd r3 0 (by decide)];simp [kw,Day.into,Day.q,sumC,c0,m1,w1,p1,U11,hp,ahL,ahM]
 have f4:e3.falls H=[]:=by
  rw[pu rfl,p0,p1,m0,m1,e3.U_zero,U11,if_neg (by decide +kernel)];rfl
 obtain⟨h1,h2⟩:=Rz rfl f1 (by decide) hF f2 (by decide) hG f3 (by decide) hH f4;rw[h2];exact⟨p0,p1,h1⟩
def e5:Day:=ab [10,30] [(1,-1,0,25)]
def e6:Day:=ab [10,0] [(0,1,0,30)]
def e7:Day:=ab [30,0] [(0,1,0,30)]
end Go.Mini
namespace Go.Mini
open Go
set_option maxRecDepth 10000
set_option maxHeartbeats 4000000
theorem SS:HasOK [5,0] [(0,1,0,10),(1,-1,0,4)] [5,5] [5,4] [[0]]:=by
 obtain⟨g0,g1,g2⟩:=Qj;refine⟨⟨by decide,by decide,by decide,by decide⟩,?_,?_,?_,fun n hn=>?_,fun n hn=>?_,by decide,by decide⟩
 ·show [ai (e1.gr 0),ai (e1.gr 1)]=_
  rw[g0,g1];rfl
 ·show [ai (co _ (e1.gr 0) _),ai (co _ (e1.gr 1) _)]=_
  rw[g0,g1,show co [(0,1,0,10),(1,-1,0,4)] 5 (0,1,0,10)=5 by decide +kernel,show co [(0,1,0,10),(1,-1,0,4)] 5 (1,-1,0,4)=4 by decide +kernel];rfl
 ·show e1.frs.map _=_
  rw[g2];rfl
 ·simp at hn;subst hn;exact dR (by omega) (by omega)
 ·simp at hn;rcases hn with rfl | rfl<;>exact dR (by omega) (by omega)
theorem SJ:HasOK [0,0] [(0,1,1,10),(1,0,1,10)] [10,10] [10,10] []:=by
 obtain⟨g0,g1,g2⟩:=Re;refine⟨⟨by decide,by decide,by decide,by decide⟩,?_,?_,?_,fun n hn=>?_,fun n hn=>?_,by decide,by decide⟩
 ·show [ai (e2.gr 0),ai (e2.gr 1)]=_
  rw[g0,g1];rfl
 ·show [ai (co _ (e2.gr 0) _),ai (co _ (e2.gr 1) _)]=_
  rw[g0,g1,show co [(0,1,1,10),(1,0,1,10)] 10 (0,1,1,10)=10 by decide +kernel,show co [(0,1,1,10),(1,0,1,10)] 10 (1,0,1,10)=10 by decide +kernel];rfl
 ·show e2.frs.map _=_
  rw[g2];rfl
 ·simp at hn;subst hn;exact dR (by omega) (by omega)
 ·simp at hn;subst hn;exact dR (by omega) (by omega)
theorem SK:HasOK [0,0] [(0,1,1,10),(1,0,1,10),(0,-1,0,5)] [0,0] [0,0,0] [[0],[1],[0]]:=by
 obtain⟨g0,g1,g2⟩:=Q7;refine⟨⟨by decide,by decide,by decide,by decide⟩,?_,?_,?_,fun n hn=>?_,fun n hn=>?_,by decide,by decide⟩
 ·show [ai (e3.gr 0),ai (e3.gr 1)]=_
  rw[g0,g1];rfl
 ·show [ai (co _ (e3.gr 0) _),ai (co _ (e3.gr 1) _),ai (co _ (e3.gr 0) _)]=_
  rw[g0,g1,show co [(0,1,1,10),(1,0,1,10),(0,-1,0,5)] 0 (0,1,1,10)=0 by decide +kernel,show co [(0,1,1,10),(1,0,1,10),(0,-1,0,5)] 0 (1,0,1,10)=0 by decide +kernel,show co [(0,1,1,10),(1,0,1,10),(0,-1,0,5)] 0 (0,-1,0,5)=0 by decide +kernel];rfl
 ·show e3.frs.map _=_
  rw[g2];rfl
 ·simp at hn;subst hn;exact dR (by omega) (by omega)
 ·simp at hn;subst hn;exact dR (by omega) (by omega)
theorem SH:HasOK [9] [(0,-1,0,6),(0,-1,1,2),(0,-1,1,4)] [9] [6,1,2] [[0]]:=by
 obtain⟨g0,g2⟩:=Qs;refine⟨⟨by decide,by decide,by decide,by decide⟩,?_,?_,?_,fun n hn=>?_,fun n hn=>?_,by decide,by decide⟩
 ·show [ai (e4.gr 0)]=_
  rw[g0];rfl
 ·show [ai (co _ (e4.gr 0) _),ai (co _ (e4.gr 0) _),ai (co _ (e4.gr 0) _)]=_
  rw[g0,show co [(0,-1,0,6),(0,-1,1,2),(0,-1,1,4)] 9 (0,-1,0,6)=6 by decide +kernel,show co [(0,-1,0,6),(0,-1,1,2),(0,-1,1,4)] 9 (0,-1,1,2)=1 by decide +kernel,show co [(0,-1,0,6),(0,-1,1,2),(0,-1,1,4)] 9 (0,-1,1,4)=2 by decide +kernel];rfl
 ·show e4.frs.map _=_
  rw[g2];rfl
 ·simp at hn;subst hn;exact dR (by omega) (by omega)
 ·simp at hn;rcases hn with rfl | rfl | rfl<;>exact dR (by omega) (by omega)
noncomputable def uq:List Data→Option PRes:=FF (α:=Unit) (fun (_:Unit)=>([]:List Data)) (fun (_:Unit)=>some (.same (.bool true)))
theorem yz:∀ a b:Unit,(fun (_:Unit)=>([]:List Data)) a=(fun (_:Unit)=>([]:List Data)) b→a=b:=by
  intro _ _ _;rfl
@[go_sem] theorem AZ :uq []=some (.same (.bool true)):=aX yz ()
theorem H3 (T:Tab) (In:T gM=mkE DG) (bI:T en=mkE l7)  :
  wp T mf_law20_small.body (bF mf_law20_small.res (.same (.bool true))) ⟨ax [],emp⟩:=by
 refine ap ?_;simp only[mf_law20_small];have k1:=oG _ _ _ _ _ SS;have k2:=oG _ _ _ _ _ SJ;have k3:=oG _ _ _ _ _ SK;have k4:=oG _ _ _ _ _ SH;have k5:=nN [-1] [] ⟨by decide,by decide,fun h=>absurd h (by decide)⟩
 have k6:C3 [-1] [] = .tup [.agg [.sl [],.sl [],.sl []],.int .i64 1]:=if_neg (by decide);rw[k6] at k5;simp only[ahN,ahO,aa,clL,jd] at k1 k2 k3 k4 k5;have hD:toD 6 (az emp 215019 0 [.dat (.int .i64 0),.dat (.int .i64 1),.dat (.int .i64 1),.dat (.int .i64 10),.dat (.int .i64 1),.dat (.int .i64 0),.dat (.int .i64 1),.dat (.int .i64 10)]) (.ref 215019 0 4 0 2)=some (.sl [[.int .i64 0,.int .i64 1,.int .i64 1,.int .i64 10],[.int .i64 1,.int .i64 0,.int .i64 1,.int .i64 10]]):=rfl;have hap:kY 215019 0 4 2 32 1 [.dat (.int .i64 0),.dat (.int .i64 (-1)),.dat (.int .i64 0),.dat (.int .i64 5)] (some (0,[.dat (.int .i64 0),.dat (.int .i64 1),.dat (.int .i64 1),.dat (.int .i64 10),.dat (.int .i64 1),.dat (.int .i64 0),.dat (.int .i64 1),.dat (.int .i64 10)]))=some (.ref 215019 1 4 0 3,some (215019,1,[.dat (.int .i64 0),.dat (.int .i64 1),.dat (.int .i64 1),.dat (.int .i64 10),.dat (.int .i64 1),.dat (.int .i64 0),.dat (.int .i64 1),.dat (.int .i64 10),.dat (.int .i64 0),.dat (.int .i64 (-1)),.dat (.int .i64 0),.dat (.int .i64 5)])):=c8 lu sV 215019 0 32 [(0,1,1,10),(1,0,1,10)] (0,-1,0,5) rfl (by decide) (by decide);have hD2:toD 6 (az (az emp 215019 0 [.dat (.int .i64 0),.dat (.int .i64 1),.dat (.int .i64 1),.dat (.int .i64 10),.dat (.int .i64 1),.dat (.int .i64 0),.dat (.int .i64 1),.dat (.int .i64 10)]) 215019 1 [.dat (.int .i64 0),.dat (.int .i64 1),.dat (.int .i64 1),.dat (.int .i64 10),.dat (.int .i64 1),.dat (.int .i64 0),.dat (.int .i64 1),.dat (.int .i64 10),.dat (.int .i64 0),.dat (.int .i64 (-1)),.dat (.int .i64 0),.dat (.int .i64 5)]) (.ref 215019 1 4 0 3)=some (.sl [[.int .i64 0,.int .i64 1,.int .i64 1,.int .i64 10],[.int .i64 1,.int .i64 0,.int .i64 1,.int .i64 10],[.int .i64 0,.int .i64 (-1),.int .i64 0,.int .i64 5]]):=rfl;simp only[go_sem,go_sem_proc,ahP,In,bI,k1,k2,k3,k4,k5,hD,hap,hD2,kz,ahQ,scalar,beq_self_eq_true]
 repeat' (first|refine qS ?_ ?_|fail)<;>intro h<;>simp only[h,go_sem,go_sem_proc,ahP,In,bI,k1,k2,k3,k4,k5,hD,hap,hD2,kz,ahQ,scalar,beq_self_eq_true]

end Go.Mini
namespace Go.Mini
open Classical
section
variable {cash:List Int} {cs:List ClR} (hs:SmallD cash cs)
include hs
end
end Go.Mini
namespace Go.Mini
open Go
set_option maxRecDepth 10000
set_option maxHeartbeats 4000000
def kA:List ClR→List aJ→Int→List aJ
 | c::cs,p::ps,who=>if c.1==who then p::kA cs ps who else kA cs ps who
 | _,_,_=>[]
theorem A3:∀ (cs:List ClR) (ps:List aJ) (c:ClR) (p:aJ) (who:Int),cs.length=ps.length→kA (cs++[c]) (ps++[p]) who=kA cs ps who++if c.1==who then [p] else []
 | [],[],c,p,who,_=>by simp only[List.nil_append,kA]
 | [],_::_,_,_,_,h=>by simp at h
 | _::_,[],_,_,_,h=>by simp at h
 | a::cs,b::ps,c,p,who,h=>by
  have ih:=A3 cs ps c p who (by simpa using h);simp only[List.cons_append,kA,ih]
  split<;>rfl
theorem Ic (cs:List ClR) (F:ClR→aJ) (who:Int):kA cs (cs.map F) who=(bO cs who).map F:=by
 unfold bO
 induction cs with
 | nil=>rfl
 | cons c cs ih =>
  rw[ahN,kA,ih]
  by_cases h:(c.1==who)=true
  ·rw[if_pos h,ahR,if_pos h];rfl
  ·rw[if_neg h,ahR,if_neg h]
theorem zq:∀ (cs:List ClR) (ps:List aJ) (who:Int),(kA cs ps who).length≤cs.length
 | [],_,_=>by simp [kA]
 | _::_,[],_=>by simp [kA]
 | a::cs,b::ps,who=>by
  have ih:=zq cs ps who;rw[kA]
  split<;>simp<;>omega
noncomputable def yy:List Data→Option PRes:=FF (α:=(List ClR) × (List aJ) × Int) (fun (cs,ps,who)=>([.sl (cs.map clL),.sl (ps.map ad),.int .i64 who]:List Data)) (fun (cs,ps,who)=>aH (ps.length=cs.length∧cs.length≤2000) (.same (.tup [.sl ((bO cs who).map clL),.sl ((kA cs ps who).map ad)])))
theorem DQ:∀ a b:(List ClR) × (List aJ) × Int,(fun (cs,ps,who)=>([.sl (cs.map clL),.sl (ps.map ad),.int .i64 who]:List Data)) a=(fun (cs,ps,who)=>([.sl (cs.map clL),.sl (ps.map ad),.int .i64 who]:List Data)) b→a=b:=by
  rintro⟨cs1,ps1,who1⟩ ⟨cs2,ps2,who2⟩ h;simp only[List.cons.injEq,Data.sl.injEq,Data.int.injEq,and_true,true_and] at h;exact ahS (af fb _ _ h.1) (ahS (af dl _ _ h.2.1) h.2.2)
@[go_sem] theorem GR (cs:List ClR) (ps:List aJ) (who:Int) (hc:ps.length=cs.length∧cs.length≤2000):yy [.sl (cs.map clL),.sl (ps.map ad),.int .i64 who]=some (.same (.tup [.sl ((bO cs who).map clL),.sl ((kA cs ps who).map ad)])):=(aX DQ (cs,ps,who)).trans (an hc _)
theorem OS (T:Tab)  (cs:List ClR) (ps:List aJ) (who:Int) (hc:ps.length=cs.length∧cs.length≤2000) :
  wp T mf_law20_own.body (bF mf_law20_own.res (.same (.tup [.sl ((bO cs who).map clL),.sl ((kA cs ps who).map ad)]))) ⟨ax [.dat (.sl (cs.map clL)),.dat (.sl (ps.map ad)),.dat (.int .i64 who)],emp⟩:=by
 refine ap ?_;simp only[mf_law20_own];obtain⟨hlp,hlen⟩:=hc;simp only[go_sem,go_sem_proc,ahP];refine ae [0,1,2] [] (fun ((i,g,g2):Nat × Nat × Nat) tm m=>i≤cs.length∧tm 10 = .dat (.int .i64 i)∧tm 8 = .ref 224030 g 4 0 (bO (cs.take i) who).length∧tm 9 = .ref 224037 g2 4 0 (kA (cs.take i) (ps.take i) who).length∧m 224030=some (g,aA clL (bO (cs.take i) who))∧m 224037=some (g2,aA ad (kA (cs.take i) (ps.take i) who))) (fun (i,_)=>cs.length-i) (0,0,0) (by refine⟨by omega,rfl,rfl,?_,rfl,?_⟩<;>rw[ahT]<;>rfl) ?_
 intro vs ms hvs hms;simp only[go_sem,go_sem_proc,ahP] at hvs hms;subst hvs hms;rintro⟨i,g,g2⟩ tm m hk hm ⟨hi,e10,e8,e9,m30,m37⟩;simp only[go_sem,go_sem_proc,ahP,List.cons.injEq] at hk hm;obtain⟨e0,e1,e2⟩:=hk;rcases ahU (i<cs.length) with hlt | hge
 ·have d1:decide ((i:Int)<(cs.length:Int))=true:=decide_eq_true (by omega)
  have w3:IntKind.i64.wrap ((i:Int)+1)=((i+1:Nat):Int):=by rw[ak _ (by omega) (by omega)];omega
  obtain⟨⟨c1,c2,c3,c4⟩,hx⟩:∃ c,cs[i]?=some c:=⟨_,ahV hlt⟩;obtain⟨⟨⟨p1,p2⟩,⟨p3,p4⟩⟩,hy⟩:∃ c,ps[i]?=some c:=⟨_,ahV (by omega)⟩;have htk:cs.take (i+1)=cs.take i++[(c1,c2,c3,c4)]:=by rw[ahW,hx];rfl
  have htp:ps.take (i+1)=ps.take i++[((p1,p2),(p3,p4))]:=by rw[ahW,hy];rfl
  have htl:(cs.take i).length=(ps.take i).length:=by rw[ahX,ahX];omega
  have hol:(bO (cs.take i) who).length≤2000:=by
   have h1:=Eq (cs.take i) who;have h2:(cs.take i).length≤cs.length:=by rw[ahX];omega
   omega
  have hol2:(kA (cs.take i) (ps.take i) who).length≤2000:=by
   have h1:=zq (cs.take i) (ps.take i) who;have h2:(cs.take i).length≤cs.length:=by rw[ahX];omega
   omega
  have hpa:=A3 (cs.take i) (ps.take i) (c1,c2,c3,c4) ((p1,p2),(p3,p4)) who htl;rw[←htk,←htp] at hpa;rcases q1:(c1==who)
  ·have hown:bO (cs.take (i+1)) who=bO (cs.take i) who:=by
    unfold bO;rw[htk,ahY,ahZ (by simpa using q1),ah0,ah1]
   rw[if_neg (by dsimp only;rw[q1];decide),ah1] at hpa;refine qI ?_
   repeat' (intro h<;>simp only[h,go_sem,go_sem_proc,ahP,e0,e1,e2,e8,e9,e10,hx,hy,d1,w3,q1,clL,ah2,ah3]<;>try refine qS ?_ ?_)
   exact⟨(i+1,g,g2),by dsimp only;omega,by dsimp only;omega,rfl,by rw[hown],by rw[hpa],by rw[hown];exact m30,by rw[hpa];exact m37⟩
  ·have hown:bO (cs.take (i+1)) who=bO (cs.take i) who++[(c1,c2,c3,c4)]:=by
    unfold bO;rw[htk,ahY,ah4 (by simpa using q1),ah0]
   rw[if_pos (by dsimp only;exact q1)] at hpa;have hap:=c8 lu sV 224030 g 32 (bO (cs.take i) who) (c1,c2,c3,c4) (cs:=[.dat (.int .i64 c1),.dat (.int .i64 c2),.dat (.int .i64 c3),.dat (.int .i64 c4)]) rfl (by omega) (by omega);rw[←hown] at hap;have hap2:=fun cs' hcs=>c8 bZ jm 224037 g2 64 (kA (cs.take i) (ps.take i) who) ((p1,p2),(p3,p4)) (cs:=cs') hcs (by omega) (by omega)
   have hap2':=hap2 _ rfl;rw[←hpa] at hap2';have hl1:(bO (cs.take (i+1)) who).length=(bO (cs.take i) who).length+1:=by rw[hown,ah5];rfl
   have hl2:(kA (cs.take (i+1)) (ps.take (i+1)) who).length=(kA (cs.take i) (ps.take i) who).length+1:=by rw[hpa,ah5];rfl
   simp only[ad,ahN,ahO] at hap2';refine qI ?_
   repeat' (intro h<;>simp only[h,go_sem,go_sem_proc,ahP,e0,e1,e2,e8,e9,e10,m30,m37,hx,hy,d1,w3,q1,hap,hap2',clL,ad,ah2,ah3]<;>try refine qS ?_ ?_)
   exact⟨(i+1,g+1,g2+1),by dsimp only;omega,by dsimp only;omega,rfl,by rw[hl1],by rw[hl2],rfl,rfl⟩
 ·have d1:decide ((i:Int)<(cs.length:Int))=false:=decide_eq_false (by omega)
  rw[ah6 (by omega)] at e8 m30;rw[ah6 (by omega),ah6 (by omega)] at e9 m37;have hfz:=fun (K:St→Prop) (st:St)=>ck (K:=K) (st:=st) lu 8 224030 g (bO cs who)
  have hfz2:=fun (K:St→Prop) (st:St)=>ck (K:=K) (st:=st) bZ 9 224037 g2 (kA cs ps who)
  refine qI ?_
  repeat' (intro h<;>simp only[h,go_sem,go_sem_proc,ahP,e0,e1,e2,e8,e9,e10,m30,m37,d1,hfz,hfz2,ah2]<;>try refine qS ?_ ?_)
def fo (l:List ClR) (q:Nat→Rat):Nat→Int
 | 0=>10
 | k+1=>match l[k]? with
  | some c=>if q k<(c.2.2.2:Rat) then min (fo l q k) c.2.2.1 else fo l q k
  | none=>fo l q k
theorem tA {l:List ClR} {q:Nat→Rat} (h:∀ c∈l,0≤c.2.2.1∧c.2.2.1<10) (k:Nat):0≤fo l q k∧fo l q k≤10:=by
 induction k with
 | zero=>exact⟨show (0:Int)≤10 by decide,show (10:Int)≤10 by decide⟩
 | succ k ih =>
  unfold fo
  split
  ·rename_i c hc
   have:=h c (ah7 hc)
   split<;>omega
  ·exact ih
theorem Ct {l:List ClR} {q:Nat→Rat} (h:∀ c∈l,0≤c.2.2.1∧c.2.2.1<10) (k:Nat):fo l q k<10↔∃ i,i<k∧∃ c,l[i]?=some c∧q i<(c.2.2.2:Rat):=by
 induction k with
 | zero=>exact⟨fun h=>absurd h (show ¬ (10:Int)<10 by decide),fun⟨i,h,_⟩=>by omega⟩
 | succ k ih =>
  unfold fo
  split
  ·rename_i c hc
   have hb:=h c (ah7 hc);have hk:=tA (q:=q) h k
   by_cases hq:q k<(c.2.2.2:Rat)
   ·rw[if_pos hq]
    exact⟨fun _=>⟨k,by omega,c,hc,hq⟩,fun _=>by omega⟩
   ·rw[if_neg hq,ih]
    constructor
    ·rintro⟨i,h1,h2⟩;exact⟨i,by omega,h2⟩
    ·rintro⟨i,h1,c',h2,h3⟩
     by_cases hik:i=k
     ·subst hik;rw[hc] at h2;cases h2;exact absurd h3 hq
     ·exact⟨i,by omega,c',h2,h3⟩
  ·rename_i hc
   rw[ih]
   constructor
   ·rintro⟨i,h1,h2⟩;exact⟨i,by omega,h2⟩
   ·rintro⟨i,h1,c',h2,h3⟩
    by_cases hik:i=k
    ·subst hik;rw[hc] at h2;cases h2
    ·exact⟨i,by omega,c',h2,h3⟩
structure yp (l:List ClR) (q:List Rat):Prop where
 own:OwnOK l
 len:q.length=l.length
 lim:∀ x∈q,cn x
noncomputable def tu (l:List ClR) (q:List Rat):Data:=if fo l (fun i=>q.getD i 0) l.length<10 then .tup [.int .i64 (fo l (fun i=>q.getD i 0) l.length),.bool true] else .tup [.int .i64 0,.bool false]
noncomputable def pI:List Data→Option PRes:=FF (α:=(List ClR) × (List Rat)) (fun (l,q)=>([.sl (l.map clL),.sl ((q.map ai).map ad)]:List Data)) (fun (l,q)=>aH (yp l q) (.same (tu l q)))
theorem xR:∀ a b:(List ClR) × (List Rat),(fun (l,q)=>([.sl (l.map clL),.sl ((q.map ai).map ad)]:List Data)) a=(fun (l,q)=>([.sl (l.map clL),.sl ((q.map ai).map ad)]:List Data)) b→a=b:=by
  rintro⟨l1,q1⟩ ⟨l2,q2⟩ h;simp only[List.cons.injEq,Data.sl.injEq,and_true] at h;exact ahS (af fb _ _ h.1) (af (fun x y hh=>tf hh) _ _ (af dl _ _ h.2))
@[go_sem] theorem AJ (l:List ClR) (q:List Rat) (hc:yp l q):pI [.sl (l.map clL),.sl ((q.map ai).map ad)]=some (.same (tu l q)):=(aX xR (l,q)).trans (an hc _)
theorem Ib (T:Tab) (dh:T ia=mkE qa) (aE:T aT=mkE ff) (cB:T cE=mkE lR) (aw:T a0=mkE dx) (l:List ClR) (q:List Rat) (hc:yp l q) :
  wp T mf_rank_Short.body (bF mf_rank_Short.res (.same (tu l q))) ⟨ax [.dat (.sl (l.map clL)),.dat (.sl ((q.map ai).map ad))],emp⟩:=by
 refine ap ?_;simp only[mf_rank_Short];obtain⟨how,hlen,hlim⟩:=hc;have h12:=how.len;have hrk:∀ c∈l,0≤c.2.2.1∧c.2.2.1<10:=fun c hc=>by have:=how.c c hc;omega
 have hle:((q.length:Int)==(l.length:Int))=true:=by rw[hlen];exact beq_self_eq_true _
 simp only[go_sem,go_sem_proc,ahP,dh,aE,cB,aw,how,hle,ah2,bne,ah8];refine ae [1,19,20] [] (fun (i:Nat) tm m=>i≤l.length∧tm 21 = .dat (.int .i64 i)∧tm 6 = .dat (.int .i64 (fo l (fun i=>q.getD i 0) i))) (fun i=>l.length-i) 0 (by refine⟨by omega,rfl,rfl⟩) ?_
 intro vs ms hvs hms;simp only[go_sem,go_sem_proc,ahP,dh,aE,cB,aw,ah2] at hvs hms;subst hvs hms;rintro i tm m hk-⟨hi,e21,e6⟩;simp only[go_sem,go_sem_proc,ahP,dh,aE,cB,aw,List.cons.injEq] at hk;obtain⟨e1,e19,e20⟩:=hk;rcases ahU (i<l.length) with hlt | hge
 ·have d1:decide ((i:Int)<(l.length:Int))=true:=decide_eq_true (by omega)
  have w3:IntKind.i64.wrap ((i:Int)+1)=((i+1:Nat):Int):=by rw[ak _ (by omega) (by omega)];omega
  obtain⟨⟨c1,c2,c3,c4⟩,hx⟩:∃ c,l[i]?=some c:=⟨_,ahV hlt⟩;obtain⟨x,hy⟩:∃ x,q[i]?=some x:=⟨_,ahV (by omega)⟩;have hc:=how.c _ (ah7 hx);have hl:=hlim x (ah7 hy);dsimp only at hc;have hin:ct c4:=dR (by omega) (by omega);have a1:=rR hl;have a2:=l8 hin;have a3:=gu hl (fK hin);have hn:decide (kD x ((c4:Int):Rat)<0)=decide (x<((c4:Int):Rat)):=pE;have hgd:q.getD i 0=x:=by rw[ah9,hy];rfl
  have hsn:fo l (fun i=>q.getD i 0) (i+1)=if x<((c4:Int):Rat) then min (fo l (fun i=>q.getD i 0) i) c3 else fo l (fun i=>q.getD i 0) i:=by
   rw[fo,hx];dsimp only;rw[hgd]
  have hqg:(q.map ai)[i]?=some (ai x):=by rw[ah3,hy];rfl
  generalize q.map ai=QE at *;generalize ai x=F at *;generalize ai ((c4:Int):Rat)=G at *;obtain⟨⟨f1,f2⟩,⟨f3,f4⟩⟩:=F;obtain⟨⟨g1,g2⟩,⟨g3,g4⟩⟩:=G;simp only[ad] at a1 a2 a3;rcases k1:decide (x<((c4:Int):Rat))
  ·rw[k1] at hn
   rw[if_neg (of_decide_eq_false k1)] at hsn;refine qI ?_
   repeat' (intro h<;>simp only[h,go_sem,go_sem_proc,ahP,dh,aE,cB,aw,e1,e6,e19,e20,e21,hx,hqg,d1,w3,a1,a2,a3,hn,clL,ad,ah2,ah3,ah8]<;>try refine qS ?_ ?_)
   exact⟨i+1,by omega,by omega,rfl,by rw[hsn]⟩
  ·rw[k1] at hn
   rw[if_pos (of_decide_eq_true k1)] at hsn;have hmn:(if c3<fo l (fun i=>q.getD i 0) i then c3 else fo l (fun i=>q.getD i 0) i)=min (fo l (fun i=>q.getD i 0) i) c3:=by rw[Int.min_def];split<;>split<;>omega
   refine qI ?_
   repeat' (intro h<;>simp only[h,go_sem,go_sem_proc,ahP,dh,aE,cB,aw,e1,e6,e19,e20,e21,hx,hqg,d1,w3,a1,a2,a3,hn,clL,ad,ah2,ah3,ah8]<;>try refine qS ?_ ?_)
   exact⟨i+1,by omega,by omega,rfl,by rw[hsn,hmn]⟩
 ·have d1:decide ((i:Int)<(l.length:Int))=false:=decide_eq_false (by omega)
  obtain rfl:i=l.length:=by omega
  have hb:=tA (q:=fun i=>q.getD i 0) hrk l.length;unfold tu;generalize fo l (fun i=>q.getD i 0) l.length=s at *;rcases k1:(s==10)
  ·rw[if_pos (by have:=ne_of_beq_false k1;omega)]
   refine qI ?_
   repeat' (intro h<;>simp only[h,go_sem,go_sem_proc,ahP,dh,aE,cB,aw,e1,e6,e19,e20,e21,d1,k1,ah2]<;>try refine qS ?_ ?_)
  ·rw[if_neg (by have:=eq_of_beq k1;omega)]
   refine qI ?_
   repeat' (intro h<;>simp only[h,go_sem,go_sem_proc,ahP,dh,aE,cB,aw,e1,e6,e19,e20,e21,d1,k1,ah2]<;>try refine qS ?_ ?_)
noncomputable def rG (cash:List Int) (cs:List ClR) (i:Nat):List Rat:=(bO cs i).map fun c=>co cs ((ab cash cs).gr i) c
section
variable {cash:List Int} {cs:List ClR} (hs:SmallD cash cs) {i:Nat}
include hs
omit hs in
theorem IG (hi:i<cash.length):kA cs (kK cash cs) i=(rG cash cs i).map ai:=by
 unfold kK rG;rw[Ic,List.map_map];refine List.map_congr_left fun c hc=>?_
 have:=(own_mem.1 hc).2
 show ai (co cs ((ab cash cs).gr c.1.toNat) c)=ai (co cs ((ab cash cs).gr i) c);rw[this,aia]
theorem yC {c:ClR} (hc:c∈bO cs i):co cs ((ab cash cs).gr i) c=(ab cash cs).pay (ab cash cs).gr (bB c):=by
 obtain⟨h1,h2⟩:=own_mem.1 hc;rw[Ii hs.right _ h1,h2,aia]
theorem LU {x:Rat} (hx:x∈rG cash cs i):szR 482 x:=by
 obtain⟨c,hc,rfl⟩:=List.mem_map.1 hx;rw[yC hs hc];exact E9 hs (own_mem.1 hc).1
theorem GK (hi:i<cash.length):fo (bO cs i) (fun k=>(rG cash cs i).getD k 0) (bO cs i).length<10↔(ab cash cs).gr i<(ab cash cs).U i 10:=by
 have hrk:∀ c∈bO cs i,0≤c.2.2.1∧c.2.2.1<10:=fun c hc=>by have:=(hs.own i).c c hc;omega
 rw[Ct hrk,←FI hs.ok (ro hs.ok hi)]
 constructor
 ·rintro⟨k,hk,c,hc,hlt⟩
  have hm:=ah7 hc;have e:(rG cash cs i).getD k 0=co cs ((ab cash cs).gr i) c:=by unfold rG;rw[ah9,ah3,hc];rfl
  try dsimp only at hlt
  rw[e,yC hs hm] at hlt;have h2:=(own_mem.1 hm).2;exact⟨bB c,aib (own_mem.1 hm).1,by show c.1.toNat=i;omega,hlt⟩
 ·rintro⟨b,hb,hfr,hlt⟩
  obtain⟨c,hc,rfl⟩:=List.mem_map.1 hb;have h1:=((rightD_iff.1 hs.right).2.2.2 c hc).1;have hm:c∈bO cs i:=own_mem.2 ⟨hc,by have:c.1.toNat=i:=hfr;omega⟩
  obtain⟨k,hk,he⟩:=List.getElem_of_mem hm;have hg:(bO cs i)[k]?=some c:=by rw[ahV hk,he]
  have e:(rG cash cs i).getD k 0=co cs ((ab cash cs).gr i) c:=by unfold rG;rw[ah9,ah3,hg];rfl
  refine⟨k,hk,c,hg,?_⟩
  try dsimp only
  rw[e,yC hs hm];exact hlt
theorem Dg (hi:i<cash.length):∃ n:Int,pI [.sl ((bO cs i).map clL),.sl (((rG cash cs i).map ai).map ad)]=some (.same (.tup [.int .i64 n,.bool (decide ((ab cash cs).gr i<(ab cash cs).U i 10))])):=by
 have h:=AJ (bO cs i) (rG cash cs i) ⟨hs.own i,by unfold rG;rw[ah2],fun x hx=>eE (LU hs hx) (by omega)⟩
 unfold tu at h;have hiff:=GK hs hi
 by_cases hq:(ab cash cs).gr i<(ab cash cs).U i 10
 ·rw[if_pos (hiff.2 hq)] at h
  exact⟨_,by rw[decide_eq_true hq];exact h⟩
 ·rw[if_neg fun hh=>hq (hiff.1 hh)] at h
  exact⟨_,by rw[decide_eq_false hq];exact h⟩
theorem Lc (hi:i<cash.length):yy [.sl (cs.map clL),.sl ((kK cash cs).map ad),.int .i64 i]=some (.same (.tup [.sl ((bO cs i).map clL),.sl (((rG cash cs i).map ai).map ad)])):=by
 have h12:=hs.c12;have h:=GR cs (kK cash cs) i ⟨by unfold kK;rw[ah2],by omega⟩
 rw[IG hi] at h;exact h
end

def yN (l:List ClR) (k:Nat):Bool:=l.any fun c=>(c.2.2.1==(k:Int))&&decide (c.2.2.2>0)
def rkN (l:List ClR) (k:Nat):Nat:=((ahK k).filter (yN l)).length
theorem KO (l:List ClR) (k:Nat):rkN l (k+1)=rkN l k+if yN l k=true then 1 else 0:=by
 unfold rkN;rw[List.range_succ,ahY,ah5]
 by_cases h:yN l k=true
 ·rw[ah4 h,if_pos h];rfl
 ·rw[ahZ h,if_neg h];rfl
theorem Oj (l:List ClR) (k:Nat):rkN l k≤k:=by
 unfold rkN;have:=aic (yN l) (ahK k)
 rwa [aid] at this
theorem L8 {cash:List Int} {cs:List ClR} (hs:SmallD cash cs) (i k:Nat):rkN (bO cs i) k=(ab cash cs).ranks i k:=by
 unfold rkN Day.ranks
 congr 2
 funext r
 have h:=w9 hs.ok i r;have hr:=(rightD_iff.1 hs.right).2.2.2;rw[Bool.eq_iff_iff,decide_eq_true_eq,h];unfold yN;rw[aie]
 constructor
 ·rintro⟨c,hc,h1⟩
  simp only[aif,beq_iff_eq,decide_eq_true_eq] at h1;obtain⟨h2,h3⟩:=own_mem.1 hc;refine⟨bB c,aib h2,by show c.1.toNat=i;omega,by show c.2.2.1.toNat=r;omega,?_⟩
  show (0:Rat)<((c.2.2.2:Int):Rat)
  exact_mod_cast h1.2
 ·rintro⟨b,hb,h1,h2,h3⟩
  obtain⟨c,hc,rfl⟩:=List.mem_map.1 hb;have h4:=hr c hc;have h1':c.1.toNat=i:=h1;have h2':c.2.2.1.toNat=r:=h2;refine⟨c,own_mem.2 ⟨hc,by omega⟩,?_⟩
  have h3':(0:Rat)<((c.2.2.2:Int):Rat):=h3;have h5:0<c.2.2.2:=by exact_mod_cast h3'
  simp only[aif,beq_iff_eq,decide_eq_true_eq];omega
theorem Rp (T:Tab) {K:bH→St→Prop} {kk:List Todo} (l:List ClR) (hl:l.length≤1000000) (k R:Nat) (hR:R≤1000) (v0 v1 v5 v6 v8 v12 v16:MV) (x6 x43:Option (Nat × List MV)) (tm:Nat→MV) (m:Mem)
  (e0:tm 0=v0) (e1:tm 1=v1) (e5:tm 5=v5) (e6:tm 6=v6) (e8:tm 8=v8) (e12:tm 12=v12) (e13:tm 13 = .dat (.sl (l.map clL))) (e16:tm 16=v16) (e17:tm 17 = .dat (.int .i64 R)) (e18:tm 18 = .dat (.int .i64 k)) (e19:tm 19 = .dat (.int .i64 0)) (m6:m 214006=x6) (m43:m 214043=x43)
  (hK:∀ tm' m',tm' 0=v0→tm' 1=v1→tm' 5=v5→tm' 6=v6→tm' 8=v8→tm' 12=v12→tm' 13 = .dat (.sl (l.map clL))→tm' 16=v16→tm' 17 = .dat (.int .i64 ((R+if yN l k=true then 1 else 0:Nat):Int))→tm' 18 = .dat (.int .i64 k)→m' 214006=x6→m' 214043=x43→kont T K kk (.exit 8) ⟨tm',m'⟩) :
  wp T (mf_law20_ClearFalls.body.sub [1,1,1,1,1,1,1,1,0,1,0,0,1,0,0,1,1,1,0,1,0,0,1,0,0,1,0]) (kont T K kk) ⟨tm,m⟩:=by
 simp only[mf_law20_ClearFalls,MCode.sub];refine ae [0,1,5,6,8,12,13,16,17,18] [214006,214043] (fun (t:Nat) tm m=>t≤l.length∧tm 19 = .dat (.int .i64 t)∧(l.take t).any (fun c=>(c.2.2.1==(k:Int))&&decide (c.2.2.2>0))=false) (fun t=>l.length-t) 0 (by refine⟨by omega,e19,by simp⟩) ?_
 intro vs ms hvs hms;simp only[go_sem,go_sem_proc,ahP,e0,e1,e5,e6,e8,e12,e13,e16,e17,e18,m6,m43] at hvs hms;subst hvs hms;clear e0 e1 e5 e6 e8 e12 e13 e16 e17 e18 e19 m6 m43 tm m;rintro t tm m hk hm ⟨ht,e19,hno⟩;simp only[go_sem,go_sem_proc,ahP,List.cons.injEq] at hk hm;obtain⟨e0,e1,e5,e6,e8,e12,e13,e16,e17,e18⟩:=hk;obtain⟨m6,m43⟩:=hm;rcases ahU (t<l.length) with hlt | hge
 ·have d1:decide ((t:Int)<(l.length:Int))=true:=decide_eq_true (by omega)
  have w3:IntKind.i64.wrap ((t:Int)+1)=((t+1:Nat):Int):=by rw[ak _ (by omega) (by omega)];omega
  have w4:IntKind.i64.wrap ((R:Int)+1)=((R+1:Nat):Int):=by rw[ak _ (by omega) (by omega)];omega
  obtain⟨⟨c1,c2,c3,c4⟩,hx⟩:∃ c,l[t]?=some c:=⟨_,ahV hlt⟩
  have hstep:(l.take (t+1)).any (fun c=>(c.2.2.1==(k:Int))&&decide (c.2.2.2>0))=((c3==(k:Int))&&decide (c4>0)):=by
   rw[ahW,hx,aig,List.any_append,hno];simp
  have hyes:(c3==(k:Int))=true→decide (c4>0)=true→yN l k=true:=fun h1 h2=>by
   unfold yN;rw[aie];exact⟨_,ah7 hx,by rw[h1,h2];rfl⟩
  rcases q1:(c3==(k:Int))
  ·refine qI ?_
   repeat' (intro h<;>simp only[h,go_sem,go_sem_proc,ahP,e0,e1,e5,e6,e8,e12,e13,e16,e17,e18,e19,m6,m43,hx,d1,w3,q1,clL,ah2,ah3]<;>try refine qS ?_ ?_)
   exact⟨t+1,by omega,by omega,rfl,by rw[hstep,q1];rfl⟩
  ·rcases q2:decide (c4>0)
   ·refine qI ?_
    repeat' (intro h<;>simp only[h,go_sem,go_sem_proc,ahP,e0,e1,e5,e6,e8,e12,e13,e16,e17,e18,e19,m6,m43,hx,d1,w3,q1,q2,clL,ah2,ah3]<;>try refine qS ?_ ?_)
    exact⟨t+1,by omega,by omega,rfl,by rw[hstep,q1,q2];rfl⟩
   ·rw[if_pos (hyes q1 q2)] at hK
    refine qI ?_
    repeat' (intro h<;>simp only[h,go_sem,go_sem_proc,ahP,e0,e1,e5,e6,e8,e12,e13,e16,e17,e18,e19,hx,d1,w4,q1,q2,clL,ah2,ah3]<;>try refine qS ?_ ?_)
    refine hK _ _ ?_ ?_ ?_ ?_ ?_ ?_ ?_ ?_ ?_ ?_ m6 m43<;>simp only[aL,aih,if_false,if_true,e0,e1,e5,e6,e8,e12,e13,e16,e17,e18]
 ·have d1:decide ((t:Int)<(l.length:Int))=false:=decide_eq_false (by omega)
  rw[ah6 (by omega)] at hno;rw[if_neg (by unfold yN;rw[hno];decide)] at hK;refine qI ?_
  repeat' (intro h<;>simp only[h,go_sem,go_sem_proc,ahP,e0,e1,e5,e6,e8,e12,e13,e16,e17,e18,e19,d1,ah2]<;>try refine qS ?_ ?_)
  refine hK _ _ ?_ ?_ ?_ ?_ ?_ ?_ ?_ ?_ ?_ ?_ m6 m43<;>simp only[aL,aih,if_false,if_true,e0,e1,e5,e6,e8,e12,e13,e16,e17,e18,Nat.add_zero]
theorem RG (T:Tab) {K:bH→St→Prop} {kk:List Todo} (l:List ClR) (hl:l.length≤1000000) (v0 v1 v5 v6 v8 v12 v16:MV) (x6 x43:Option (Nat × List MV)) (tm:Nat→MV) (m:Mem)
  (e0:tm 0=v0) (e1:tm 1=v1) (e5:tm 5=v5) (e6:tm 6=v6) (e8:tm 8=v8) (e12:tm 12=v12) (e13:tm 13 = .dat (.sl (l.map clL))) (e16:tm 16=v16) (e17:tm 17 = .dat (.int .i64 0)) (e18:tm 18 = .dat (.int .i64 0)) (m6:m 214006=x6) (m43:m 214043=x43)
  (hK:∀ tm' m',tm' 0=v0→tm' 1=v1→tm' 5=v5→tm' 6=v6→tm' 8=v8→tm' 12=v12→tm' 16=v16→tm' 17 = .dat (.int .i64 (rkN l 10))→m' 214006=x6→m' 214043=x43→kont T K kk (.exit 6) ⟨tm',m'⟩) :
  wp T (mf_law20_ClearFalls.body.sub [1,1,1,1,1,1,1,1,0,1,0,0,1,0,0,1,1,1,0,1,0]) (kont T K kk) ⟨tm,m⟩:=by
 simp only[mf_law20_ClearFalls,MCode.sub];refine ae [0,1,5,6,8,12,13,16] [214006,214043] (fun (k:Nat) tm m=>k≤10∧tm 18 = .dat (.int .i64 k)∧tm 17 = .dat (.int .i64 (rkN l k))) (fun k=>10-k) 0 (by refine⟨by omega,e18,e17⟩) ?_;intro vs ms hvs hms;simp only[go_sem,go_sem_proc,ahP,e0,e1,e5,e6,e8,e12,e13,e16,m6,m43] at hvs hms;subst hvs hms;clear e0 e1 e5 e6 e8 e12 e13 e16 e17 e18 m6 m43 tm m;rintro k tm m hk hm ⟨hk10,e18,e17⟩;simp only[go_sem,go_sem_proc,ahP,List.cons.injEq] at hk hm;obtain⟨e0,e1,e5,e6,e8,e12,e13,e16⟩:=hk;obtain⟨m6,m43⟩:=hm;rcases ahU (k<10) with hlt | hge
 ·have d1:decide ((k:Int)<10)=true:=decide_eq_true (by omega)
  have w3:IntKind.i64.wrap ((k:Int)+1)=((k+1:Nat):Int):=by rw[ak _ (by omega) (by omega)];omega
  have hrl:=Oj l k;simp only[go_sem,go_sem_proc,ahP,e0,e1,e5,e6,e8,e12,e13,e16,e17,e18,d1];refine Rp T l hl k (rkN l k) (by omega) v0 v1 v5 v6 v8 v12 v16 x6 x43 _ _ ?_ ?_ ?_ ?_ ?_ ?_ ?_ ?_ ?_ ?_ ?_ m6 m43 ?_
  all_goals first | (intro tm2 m2 k0 k1 k5 k6 k8 k12 k13 k16 k17 k18 q6 q43) | (simp only[aL,aih,if_false,if_true,e0,e1,e5,e6,e8,e12,e13,e16,e17,e18];done)
  rw[←KO] at k17;refine qI ?_
  repeat' (intro h<;>simp only[h,go_sem,go_sem_proc,ahP,k0,k1,k5,k6,k8,k12,k13,k16,k17,k18,q6,q43,w3]<;>try refine qS ?_ ?_)
  exact⟨k+1,by omega,by omega,rfl,rfl⟩
 ·obtain rfl:k=10:=by omega
  have d1:decide (((10:Nat):Int)<10)=false:=by decide
  refine qI ?_
  repeat' (intro h<;>simp only[h,go_sem,go_sem_proc,ahP,e0,e1,e5,e6,e8,e12,e13,e16,e17,e18,d1]<;>try refine qS ?_ ?_)
  refine hK _ _ ?_ ?_ ?_ ?_ ?_ ?_ ?_ ?_ m6 m43<;>simp only[aL,aih,if_false,if_true,e0,e1,e5,e6,e8,e12,e13,e16,e17,e18]
def i8 (fr:List (List Nat)) (i:Nat) (r:List Nat) (k j:Nat):Int:=(((fr.take i).flatten.count j+(r.take k).count j:Nat):Int)
theorem uV (fr:List (List Nat)) (i:Nat) (r:List Nat) (hx:fr[i]?=some r) (j:Nat):(fr.take (i+1)).flatten.count j=(fr.take i).flatten.count j+r.count j:=by
 rw[ahW,hx,aig,aii,aij];simp
theorem QR (T:Tab) {K:bH→St→Prop} {kk:List Todo} (n:Nat) (hn:n≤5) (cash:List Int) (hc:cash.length=n) (fr:List (List Nat)) (i:Nat) (r:List Nat) (hx:fr[i]?=some r) (hlen:r.length≤1000000) (hr:∀ x∈r,x<n) (hso:r.Pairwise (·<·)) (hcb:∀ k j,j<n→i8 fr i r k j≤1000000) (hv pd v1 v5:MV) (x:Nat) (tm:Nat→MV) (m:Mem)
  (e0:tm 0 = .dat (.sl (cash.map aa))) (e1:tm 1=v1) (e5:tm 5=v5) (e6:tm 6 = .ptr 214006 0 0) (e8:tm 8 = .ref 214043 0 1 0 n) (e9:tm 9 = .dat (.int .i64 i)) (e10:tm 10 = .dat (.int .i64 0)) (m6:m 214006=some (0,[hv,pd,.dat (.sl (fr.map iX))])) (m43:m 214043=some (0,(fL n fun j=>i8 fr i r 0 j).map iC))
  (hK:∀ tm' m',tm' 0 = .dat (.sl (cash.map aa))→tm' 1=v1→tm' 5=v5→tm' 6 = .ptr 214006 0 0→tm' 8 = .ref 214043 0 1 0 n→tm' 9 = .dat (.int .i64 i)→m' 214006=some (0,[hv,pd,.dat (.sl (fr.map iX))])→m' 214043=some (0,(fL n fun j=>i8 fr i r r.length j).map iC)→kont T K kk (.exit 2) ⟨tm',m'⟩) :
  wp T (mf_law20_ClearFalls.body.sub [1,1,1,1,1,1,1,0,1,0,0,1,0,0,1,1,0]) (kont T K kk) ⟨tm,m⟩:=by
 simp only[mf_law20_ClearFalls,MCode.sub];refine ae [0,1,5,6,8,9] [214006] (fun (k:Nat) tm m=>k≤r.length∧tm 10 = .dat (.int .i64 k)∧m 214043=some (0,(fL n fun j=>i8 fr i r k j).map iC)) (fun k=>r.length-k) 0 (by refine⟨by omega,e10,m43⟩) ?_;intro vs ms hvs hms;simp only[go_sem,go_sem_proc,ahP,e0,e1,e5,e6,e8,e9,m6] at hvs hms;subst hvs hms;clear e0 e1 e5 e6 e8 e9 e10 m6 m43 tm m;rintro k tm m hk hm ⟨hkn,e10,m43⟩;simp only[go_sem,go_sem_proc,ahP,List.cons.injEq] at hk hm;obtain⟨e0,e1,e5,e6,e8,e9⟩:=hk;have m6:=hm;rcases ahU (k<r.length) with hlt | hge
 ·have d1:decide ((k:Int)<(r.length:Int))=true:=decide_eq_true (by omega)
  have w3:IntKind.i64.wrap ((k:Int)+1)=((k+1:Nat):Int):=by rw[ak _ (by omega) (by omega)];omega
  obtain⟨w,hw⟩:∃ w,r[k]?=some w:=⟨_,ahV hlt⟩;have hwn:=hr w (ah7 hw);have hb:=hcb (k+1) w hwn
  have hcs:∀ j,i8 fr i r (k+1) j=if j=w then i8 fr i r k w+1 else i8 fr i r k j:=fun j=>by
   unfold i8;rw[ahW,hw,aig,aij]
   by_cases hj:j=w
   ·subst hj
    rw[if_pos rfl,List.count_singleton_self];omega
   ·rw[if_neg hj,List.count_singleton,if_neg (by simpa using fun h=>hj h.symm)];omega
  have hvf:(fL n fun j=>i8 fr i r (k+1) j)=fL n fun j=>if j=w then i8 fr i r k w+1 else i8 fr i r k j:=bQ fun j _=>hcs j
  have hb0:0≤i8 fr i r k w:=by unfold i8;omega
  have wA:IntKind.i64.wrap (i8 fr i r k w+1)=i8 fr i r k w+1:=by
   have h1:=hcs w;rw[if_pos rfl] at h1;rw[ak _ (by omega) (by omega)]
  have t1:=iget hwn fun j=>i8 fr i r k j
  have t2:=ilen n fun j=>i8 fr i r k j
  have t3:=iset hwn (fun j=>i8 fr i r k j) (i8 fr i r k w+1);rw[←hvf] at t3;have l1:w+1≤n:=by omega
  have s1:decide ((w:Int)<0)=false:=decide_eq_false (by omega);have s2:decide ((w:Int)≥(n:Int))=false:=decide_eq_false (by omega);generalize hv1:(fL n fun j=>i8 fr i r k j).map iC=R at *;generalize hv2:(fL n fun j=>i8 fr i r (k+1) j).map iC=R2 at *;generalize i8 fr i r k w=S1 at *;rcases q:decide ((k:Int)>0)
  ·simp only[go_sem,go_sem_proc,ahP,e0,e1,e5,e6,e8,e9,e10,m6,m43,hx,hw,hc,d1,w3,s1,s2,q,wA,t1,t2,t3,hwn,l1,iX,fQ,aik,ah2,ah3]
   repeat' (first|refine qS ?_ ?_|fail)<;>intro h<;>simp only[h,go_sem,go_sem_proc,ahP,e0,e1,e5,e6,e8,e9,e10,m6,m43,hx,hw,hc,d1,w3,s1,s2,q,wA,t1,t2,t3,hwn,l1,iX,fQ,aik,ah2,ah3]
   exact⟨k+1,by omega,by omega,rfl,by rw[hv2]⟩
  ·have hk0:=of_decide_eq_true q
   obtain⟨k',rfl⟩:∃ k':Nat,k=k'+1:=⟨k-1,by omega⟩
   have w5:IntKind.i64.wrap (((k'+1:Nat):Int)-1)=(k':Int):=by rw[ak _ (by omega) (by omega)];omega
   obtain⟨u,hu⟩:∃ u,r[k']?=some u:=⟨_,ahV (by omega)⟩
   have huw:u<w:=by
    obtain⟨h1,h2⟩:=List.getElem?_eq_some_iff.1 hu;obtain⟨h3,h4⟩:=List.getElem?_eq_some_iff.1 hw;have:=List.pairwise_iff_getElem.1 hso k' (k'+1) h1 h3 (by omega);rw[h2,h4] at this;exact this
   have s3:decide ((u:Int)≥(w:Int))=false:=decide_eq_false (by omega);simp only[go_sem,go_sem_proc,ahP,e0,e1,e5,e6,e8,e9,e10,m6,m43,hx,hw,hu,hc,d1,w3,w5,s1,s2,s3,q,wA,t1,t2,t3,hwn,l1,iX,fQ,aik,ah2,ah3]
   repeat' (first|refine qS ?_ ?_|fail)<;>intro h<;>simp only[h,go_sem,go_sem_proc,ahP,e0,e1,e5,e6,e8,e9,e10,m6,m43,hx,hw,hu,hc,d1,w3,w5,s1,s2,s3,q,wA,t1,t2,t3,hwn,l1,iX,fQ,aik,ah2,ah3]
   exact⟨k'+1+1,by omega,by omega,rfl,by rw[hv2]⟩
 ·have d1:decide ((k:Int)<(r.length:Int))=false:=decide_eq_false (by omega)
  obtain rfl:k=r.length:=by omega
  simp only[go_sem,go_sem_proc,ahP,e0,e1,e5,e6,e8,e9,e10,m6,hx,d1,iX,ah2,ah3]
  repeat' (first|refine qS ?_ ?_|fail)<;>intro h<;>simp only[h,go_sem,go_sem_proc,ahP,e0,e1,e5,e6,e8,e9,e10,m6,hx,d1,iX,ah2,ah3]
  refine hK _ _ ?_ ?_ ?_ ?_ ?_ ?_ m6 m43<;>simp only[aL,aih,if_false,if_true,e0,e1,e5,e6,e8,e9]
theorem Dr {r:List Nat} {n:Nat} (hs:r.Pairwise (·<·)) (hn:∀ x∈r,x<n):r.length≤n:=by
 have key:∀ k (h:k<r.length),k≤r[k]:=by
  intro k
  induction k with
  | zero=>intro h;omega
  | succ k ih =>
   intro h;have h1:=ih (by omega);have h2:=List.pairwise_iff_getElem.1 hs k (k+1) (by omega) h (by omega);omega
 by_cases h0:r.length=0
 ·omega
 ·have h1:=key (r.length-1) (by omega)
  have h2:=hn _ (List.getElem_mem (show r.length-1<r.length by omega));omega
theorem Ky (d:Day) (i:Nat):d.ranks i 10≤10:=by
 unfold Day.ranks;have:=aic (fun k=>decide (0<d.S i k)) (ahK 10)
 rwa [aid] at this
theorem FT (fr:List (List Nat)) (i j:Nat):(fr.take i).flatten.count j≤fr.flatten.count j:=by
 have h:fr.flatten=(fr.take i).flatten++(fr.drop i).flatten:=by rw[←aii,List.take_append_drop]
 rw[h,aij];omega
noncomputable def tC:List Data→Option PRes:=FF (α:=(List Int) × (List ClR)) (fun (cash,cs)=>([.sl (cash.map aa),.sl (cs.map clL)]:List Data)) (fun (cash,cs)=>some (.same (.bool true)))
theorem yh:∀ a b:(List Int) × (List ClR),(fun (cash,cs)=>([.sl (cash.map aa),.sl (cs.map clL)]:List Data)) a=(fun (cash,cs)=>([.sl (cash.map aa),.sl (cs.map clL)]:List Data)) b→a=b:=by
  rintro⟨cash1,cs1⟩ ⟨cash2,cs2⟩ h;simp only[List.cons.injEq,Data.sl.injEq,and_true] at h;exact ahS (af aj _ _ h.1) (af fb _ _ h.2)
@[go_sem] theorem zg (cash:List Int) (cs:List ClR):tC [.sl (cash.map aa),.sl (cs.map clL)]=some (.same (.bool true)):=aX yh (cash,cs)
theorem JO (T:Tab) (dw:T kp=mkE uq) (fW:T mM=mkE Ci) (bI:T en=mkE l7) (fX:T ni=mkE yy) (du:T lK=mkE pI) (cash:List Int) (cs:List ClR) :
  wp T mf_law20_ClearFalls.body (bF mf_law20_ClearFalls.res (.same (.bool true))) ⟨ax [.dat (.sl (cash.map aa)),.dat (.sl (cs.map clL))],emp⟩:=by
 refine ap ?_;simp only[mf_law20_ClearFalls];have sm:=AZ;have g1:=Fw cash cs;rcases hf:vJ cash cs
 ·rw[hf] at g1
  simp only[go_sem,go_sem_proc,ahP,dw,fW,bI,fX,du,sm,g1,ail]
  repeat' (first|refine qS ?_ ?_|fail)<;>intro h<;>simp only[h,go_sem,go_sem_proc,ahP,dw,fW,bI,fX,du,sm,g1,ail]
 rw[hf] at g1;have sv:=nN cash cs (KY hf);unfold C3 at sv;rcases hr:c9 cash cs
 ·rw[if_neg (by rw[hr];decide)] at sv
  simp only[go_sem,go_sem_proc,ahP,dw,fW,bI,fX,du,sm,g1,sv,show ((1:Int)==0)=false from rfl,bne,beq_self_eq_true,ail,ah8]
  repeat' (first|refine qS ?_ ?_|fail)<;>intro h<;>simp only[h,go_sem,go_sem_proc,ahP,dw,fW,bI,fX,du,sm,g1,sv,show ((1:Int)==0)=false from rfl,bne,beq_self_eq_true,ail,ah8]
 rw[if_pos hr] at sv;have hs:=wD hf hr;have hn5:=hs.n5;have h12:=hs.c12;have hl2:(kK cash cs).length=cs.length:=by unfold kK;rw[ah2]
 have hle2:(((kK cash cs).length:Int)==(cs.length:Int))=true:=by rw[hl2];exact beq_self_eq_true _
 obtain⟨hne,hct⟩:=I4 hs.ok
 have hfl:(ab cash cs).frs.length≤50:=by
  have:=pB (ab cash cs) (10*(ab cash cs).n) fun _=>10
  have e:(ab cash cs).n=cash.length:=rfl;unfold Day.frs;omega
 have hne:∀ l∈(ab cash cs).frs,l≠[]∧l.Pairwise (·<·)∧∀ i∈l,i<cash.length:=hne;have hct:∀ i,i<cash.length→(ab cash cs).frs.flatten.count i≤(ab cash cs).ranks i 10∧((ab cash cs).gr i<(ab cash cs).U i 10↔0<(ab cash cs).frs.flatten.count i):=hct
 have hcb:∀ i r k j,(ab cash cs).frs[i]?=some r→j<cash.length→i8 (ab cash cs).frs i r k j≤1000000:=fun i r k j hx hj=>by
  have h1:=(hct j hj).1;have h2:=Ky (ab cash cs) j;have h3:=FT (ab cash cs).frs (i+1) j;rw[uV _ _ _ hx] at h3;have h4:(r.take k).count j≤r.count j:=(List.take_sublist k r).count_le j;unfold i8;omega
 have hsh:=fun i hi=>Dg hs (i:=i) hi
 have how:=fun i hi=>Lc hs (i:=i) hi
 have hrk:∀ i:Nat,rkN (bO cs i) 10=(ab cash cs).ranks i 10:=fun i=>L8 hs i 10
 have hmk1:(8*cash.length≤140737488355328)=True:=eq_true (by omega);have hmk2:(cash.length≤maxLen)=True:=eq_true (by unfold maxLen;omega);have hz:=zrow cash.length;generalize (ab cash cs).frs=fr at *;generalize kP cash cs=HV at *;generalize kK cash cs=PD at *;simp only[go_sem,go_sem_proc,ahP,dw,fW,bI,fX,du,sm,g1,sv,hle2,hmk1,hmk2,hz,bne,beq_self_eq_true,ah2,ah8];refine ae [0,1,5,6,8] [214006] (fun (i:Nat) tm m=>i≤fr.length∧tm 9 = .dat (.int .i64 i)∧m 214043=some (0,(fL cash.length fun j=>(((fr.take i).flatten.count j:Nat):Int)).map iC)) (fun i=>fr.length-i) 0 (by refine⟨by omega,rfl,?_⟩;simp only[ahT,List.flatten_nil,List.count_nil];rfl) ?_
 intro vs ms hvs hms;simp only[go_sem,go_sem_proc,ahP,dw,fW,bI,fX,du,ah2] at hvs hms;subst hvs hms;rintro i tm m hk hm ⟨hi,e9,m43⟩;simp only[go_sem,go_sem_proc,ahP,dw,fW,bI,fX,du,List.cons.injEq] at hk hm;obtain⟨e0,e1,e5,e6,e8⟩:=hk;have m6:=hm;rcases ahU (i<fr.length) with hlt | hge
 ·have d1:decide ((i:Int)<(fr.length:Int))=true:=decide_eq_true (by omega)
  have w3:IntKind.i64.wrap ((i:Int)+1)=((i+1:Nat):Int):=by rw[ak _ (by omega) (by omega)];omega
  obtain⟨r,hx⟩:∃ r,fr[i]?=some r:=⟨_,ahV hlt⟩;obtain⟨n1,n2,n3⟩:=hne r (ah7 hx);have hrl:=Dr n2 n3
  have hr0:((r.length:Int)==0)=false:=by
   rw[beq_eq_false_iff_ne];intro h;exact n1 (List.length_eq_zero_iff.1 (by omega))
  have hst:(fL cash.length fun j=>(((fr.take i).flatten.count j:Nat):Int))=fL cash.length fun j=>i8 fr i r 0 j:=bQ fun j _=>by unfold i8;simp
  have hen:(fL cash.length fun j=>i8 fr i r r.length j)=fL cash.length fun j=>(((fr.take (i+1)).flatten.count j:Nat):Int):=bQ fun j _=>by
   unfold i8;rw[List.take_length,uV _ _ _ hx]
  rw[hst] at m43;simp only[go_sem,go_sem_proc,ahP,dw,fW,bI,fX,du,e0,e1,e5,e6,e8,e9,m6,hx,hr0,d1,iX,ah2,ah3];refine QR T cash.length hn5 cash rfl fr i r hx (by omega) n3 n2 (fun k j hj=>hcb i r k j hx hj) (.dat (.sl (HV.map ad))) (.dat (.sl (PD.map ad))) (.dat (.sl (cs.map clL))) (.dat (.bool true)) 0 _ _ ?_ ?_ ?_ ?_ ?_ ?_ ?_ m6 m43 ?_
  all_goals first | (intro tm2 m2 k0 k1 k5 k6 k8 k9 q6 q43) | (simp only[aL,aih,if_false,if_true,e0,e1,e5,e6,e8,e9];done)
  rw[hen] at q43;simp only[go_sem,go_sem_proc,ahP,dw,fW,bI,fX,du,k0,k1,k5,k6,k8,k9,q6,q43,w3]
  repeat' (first|refine qS ?_ ?_|fail)<;>intro h<;>simp only[h,go_sem,go_sem_proc,ahP,dw,fW,bI,fX,du,k0,k1,k5,k6,k8,k9,q6,q43,w3]
  exact⟨i+1,by omega,by omega,rfl,rfl⟩
 ·have d1:decide ((i:Int)<(fr.length:Int))=false:=decide_eq_false (by omega)
  rw[ah6 (by omega)] at m43;simp only[go_sem,go_sem_proc,ahP,dw,fW,bI,fX,du,e0,e1,e5,e6,e8,e9,m6,d1,ah2];refine ae [0,1,5,6,8] [214006,214043] (fun (i:Nat) tm m=>i≤cash.length∧tm 12 = .dat (.int .i64 i)) (fun i=>cash.length-i) 0 (by refine⟨by omega,rfl⟩) ?_;intro vs ms hvs hms;simp only[go_sem,go_sem_proc,ahP,dw,fW,bI,fX,du,e0,e1,e5,e6,e8,m6,m43] at hvs hms;subst hvs hms;clear e0 e1 e5 e6 e8 e9 m6 m43 hm d1 hi tm m;rintro i tm m hk hm ⟨hi,e12⟩;simp only[go_sem,go_sem_proc,ahP,dw,fW,bI,fX,du,List.cons.injEq] at hk hm;obtain⟨e0,e1,e5,e6,e8⟩:=hk;obtain⟨m6,m43⟩:=hm;rcases ahU (i<cash.length) with hlt | hge
  ·have d1:decide ((i:Int)<(cash.length:Int))=true:=decide_eq_true (by omega)
   have w3:IntKind.i64.wrap ((i:Int)+1)=((i+1:Nat):Int):=by rw[ak _ (by omega) (by omega)];omega
   have a1:=how i hlt;obtain⟨sn,a2⟩:=hsh i hlt;obtain⟨c1,c2⟩:=hct i hlt;have a3:=hrk i;have a4:decide (((fr.flatten.count i:Nat):Int)>0)=decide ((ab cash cs).gr i<(ab cash cs).U i 10):=by rw[decide_eq_decide,c2];omega
   have a5:decide (((fr.flatten.count i:Nat):Int)>((rkN (bO cs i) 10:Nat):Int))=false:=decide_eq_false (by rw[a3];omega);have hol:=Eq cs i;have t1:=iget hlt fun j=>(((fr.flatten.count j:Nat):Int))
   have t2:=ilen cash.length fun j=>(((fr.flatten.count j:Nat):Int))
   have l1:i+1≤cash.length:=by omega
   generalize decide ((ab cash cs).gr i<(ab cash cs).U i 10)=b at *;generalize (rG cash cs i).map ai=QE at *;generalize hR:(fL cash.length fun j=>(((fr.flatten.count j:Nat):Int))).map iC=R at *
   generalize ((fr.flatten.count i:Nat):Int)=ci at *;generalize hRK:((rkN (bO cs i) 10:Nat):Int)=rk at *;simp only[go_sem,go_sem_proc,ahP,dw,fW,bI,fX,du,e0,e1,e5,e6,e8,e12,m6,m43,a1,a2,d1,ah2];refine RG T (bO cs i) (by omega) (.dat (.sl (cash.map aa))) (.dat (.sl (cs.map clL))) (.dat (.bool true)) (.ptr 214006 0 0) (.ref 214043 0 1 0 cash.length) (.dat (.int .i64 i)) (.dat (.bool b)) _ _ _ _ ?_ ?_ ?_ ?_ ?_ ?_ ?_ ?_ ?_ ?_ m6 m43 ?_
   all_goals first | (intro tm2 m2 k0 k1 k5 k6 k8 k12 k16 k17 q6 q43) | (simp only[aL,aih,if_false,if_true,e0,e1,e5,e6,e8,e12];done)
   rw[hRK] at k17;simp only[go_sem,go_sem_proc,ahP,dw,fW,bI,fX,du,k0,k1,k5,k6,k8,k12,k16,k17,q6,q43,t1,t2,l1,hlt,a4,a5,w3,aik,bne,beq_self_eq_true,ah8]
   repeat' (first|refine qS ?_ ?_|fail)<;>intro h<;>simp only[h,go_sem,go_sem_proc,ahP,dw,fW,bI,fX,du,k0,k1,k5,k6,k8,k12,k16,k17,q6,q43,t1,t2,l1,hlt,a4,a5,w3,aik,bne,beq_self_eq_true,ah8]
   exact⟨i+1,by omega,by omega,rfl⟩
  ·have d1:decide ((i:Int)<(cash.length:Int))=false:=decide_eq_false (by omega)
   simp only[go_sem,go_sem_proc,ahP,dw,fW,bI,fX,du,e0,e1,e5,e6,e8,e12,d1,ah2]
   repeat' (first|refine qS ?_ ?_|fail)<;>intro h<;>simp only[h,go_sem,go_sem_proc,ahP,dw,fW,bI,fX,du,e0,e1,e5,e6,e8,e12,d1,ah2]
end Go.Mini
namespace Go.Mini
open Go Go.Proofs
set_option maxRecDepth 100000
theorem psF {P : Program} {T : Tab} {kb : Nat} {own : List Nat} {α : Type} {args : α → List Data} {res : α → Option PRes} (hT : jV P T) (hm : P.follows .mixedOrders = true) {f : FuncId} {fn : Func} {mf : MFunc} (hf : P.funcs[f]? = some fn) (hname : (fn.name == "runtime.NumGoroutine") = false) (htr : jO P kb own fn = some { mf with body := erase mf.body }) (h : ∀ a r, res a = some r → (args a).length ≤ mf.n ∧ wp T mf.body (bF mf.res r) ⟨ax ((args a).map .dat), emp⟩) : aR P f (FF args res) := HJ hT hm hf hname htr fun ds r hr => by
 obtain⟨a,rfl,h2⟩:=NX hr;exact h a r h2
theorem mixed:Try.prog.follows .mixedOrders=true:=by kernel_rfl
theorem oA:aR Try.prog cv nj:=psF (mf:=mf_big_trim) (kb:=177000) (own:=[]) (av (aB au) (aC aq)) mixed Try.func88 (by kernel_rfl) (by kernel_rfl) fun x0 r hr=>by obtain⟨hc,rfl⟩:=ao hr;exact⟨aim rfl,OE _  x0 hc⟩
theorem od:iz Try.prog cv (mkG jL):=RSpec.toE (zZ (mf:=mf_big_trim) (kb:=177000) (own:=[]) (av (aB au) (aC aq)) mixed Try.func88 (by kernel_rfl) (by kernel_rfl) fun args mem x h=>by
 obtain⟨a,⟨rfl,hm,hl⟩,rfl⟩:=Db h;exact⟨aim rfl,Mt _ a.l a.k a.g mem hm hl⟩)
theorem If:aR Try.prog gO xj:=psF (mf:=mf_cmp_isNaN_int) (kb:=184000) (own:=[]) (av (aB au) (aC aq)) mixed Try.func90 (by kernel_rfl) (by kernel_rfl) fun x0 r hr=>by obtain rfl:=Option.some.inj hr;exact⟨aim rfl,LG _  x0⟩
theorem DX:aR Try.prog dA xM:=psF (mf:=mf_cmp_Compare_int) (kb:=174000) (own:=[]) (av (aB (ac If au)) (aC aq)) mixed Try.func68 (by kernel_rfl) (by kernel_rfl) fun⟨x0,x1⟩ r hr=>by obtain rfl:=Option.some.inj hr;exact⟨aim rfl,Om _ (ah rfl rfl) x0 x1⟩
theorem OM:aR Try.prog lJ Kd:=psF (mf:=mf_cmp_Or_int) (kb:=179000) (own:=[]) (av (aB au) (aC aq)) mixed Try.func91 (by kernel_rfl) (by kernel_rfl) fun x0 r hr=>by obtain⟨hc,rfl⟩:=ao hr;exact⟨aim rfl,Qg _  x0 hc⟩
theorem qC:aR Try.prog bP mV:=psF (mf:=mf_slices_Clone_int) (kb:=156000) (own:=[5]) (av (aB au) (aC aq)) mixed Try.func45 (by kernel_rfl) (by kernel_rfl) fun x0 r hr=>by obtain⟨hc,rfl⟩:=ao hr;exact⟨aim rfl,LY _  x0 hc⟩
theorem eL:aR Try.prog ba eh:=psF (mf:=mf_big_Right) (kb:=136000) (own:=[]) (av (aB au) (aC aq)) mixed Try.func60 (by kernel_rfl) (by kernel_rfl) fun⟨x0,x1⟩ r hr=>by obtain⟨hc,rfl⟩:=ao hr;exact⟨aim rfl,Cr _  x0 x1 hc⟩
theorem kn:aR Try.prog bA jI:=psF (mf:=mf_big_signed) (kb:=158000) (own:=[]) (av (aB (ac oA au)) (aC (eJ od aq))) mixed Try.func65 (by kernel_rfl) (by kernel_rfl) fun⟨x0,x1⟩ r hr=>by obtain⟨hc,rfl⟩:=ao hr;exact⟨aim rfl,Jm _ (oc rfl rfl) x0 x1 hc⟩
theorem oZ:aR Try.prog ej lW:=psF (mf:=mf_big_compare) (kb:=175000) (own:=[]) (av (aB (ac DX au)) (aC aq)) mixed Try.func69 (by kernel_rfl) (by kernel_rfl) fun⟨x0,x1⟩ r hr=>by obtain⟨hc,rfl⟩:=ao hr;exact⟨aim rfl,Gc _ (ah rfl rfl) x0 x1 hc⟩
theorem KG:aR Try.prog ky DZ:=psF (mf:=mf_big_add) (kb:=172000) (own:=[]) (av (aB (ac oA au)) (aC (eJ od aq))) mixed Try.func66 (by kernel_rfl) (by kernel_rfl) fun⟨x0,x1⟩ r hr=>by obtain⟨hc,rfl⟩:=ao hr;exact⟨aim rfl,RF _ (oc rfl rfl) x0 x1 hc⟩
theorem I2:aR Try.prog jl D6:=psF (mf:=mf_big_sub) (kb:=173000) (own:=[10]) (av (aB (ac qC (ac oA au))) (aC (eJ od aq))) mixed Try.func67 (by kernel_rfl) (by kernel_rfl) fun⟨x0,x1⟩ r hr=>by obtain⟨hc,rfl⟩:=ao hr;exact⟨aim rfl,QY _ (ah rfl rfl) (oc rfl rfl) x0 x1 hc⟩
theorem HS:aR Try.prog jb D0:=psF (mf:=mf_big_mul) (kb:=161000) (own:=[]) (av (aB (ac oA au)) (aC (eJ od aq))) mixed Try.func72 (by kernel_rfl) (by kernel_rfl) fun⟨x0,x1⟩ r hr=>by obtain⟨hc,rfl⟩:=ao hr;exact⟨aim rfl,QZ _ (oc rfl rfl) x0 x1 hc⟩
theorem Jw:aR Try.prog ka yS:=psF (mf:=mf_big_short) (kb:=176000) (own:=[]) (av (aB (ac oA au)) (aC (eJ od aq))) mixed Try.func87 (by kernel_rfl) (by kernel_rfl) fun⟨x0,x1⟩ r hr=>by obtain⟨hc,rfl⟩:=ao hr;exact⟨aim rfl,Mn _ (oc rfl rfl) x0 x1 hc⟩
theorem G0:iz Try.prog lO (mkG nV):=RSpec.toE (zZ (mf:=mf_big_settle) (kb:=178000) (own:=[]) (av (aB au) (aC aq)) mixed Try.func89 (by kernel_rfl) (by kernel_rfl) fun args mem x h=>by
 obtain⟨a,⟨rfl,hc⟩,rfl⟩:=Db h;exact⟨aim rfl,JR _ a mem hc⟩)
theorem KC:aR Try.prog kI EN:=psF (mf:=mf_big_div) (kb:=157000) (own:=[54]) (av (aB (ac oZ (ac qC (ac Jw (ac oA (ac HS au)))))) (aC (eJ od (eJ G0 aq)))) mixed Try.func64 (by kernel_rfl) (by kernel_rfl) fun⟨x0,x1⟩ r hr=>by obtain⟨hc,rfl⟩:=ao hr;exact⟨aim rfl,Rr _ (ah rfl rfl) (ah rfl rfl) (ah rfl rfl) (oc rfl rfl) (ah rfl rfl) (ny rfl rfl) x0 x1 hc⟩
theorem pe:aR Try.prog cp mB:=psF (mf:=mf_big_checked) (kb:=155000) (own:=[]) (av (aB au) (aC aq)) mixed Try.func71 (by kernel_rfl) (by kernel_rfl) fun⟨x0,x1,x2⟩ r hr=>by obtain rfl:=Option.some.inj hr;exact⟨aim rfl,Hi _  x0 x1 x2⟩
theorem KL:aR Try.prog jo Eo:=psF (mf:=mf_big_Neg) (kb:=152000) (own:=[]) (av (aB (ac eL (ac qC (ac kn au)))) (aC aq)) mixed Try.func80 (by kernel_rfl) (by kernel_rfl) fun⟨x0,x1⟩ r hr=>by obtain⟨hc,rfl⟩:=ao hr;exact⟨aim rfl,QG _ (ah rfl rfl) (ah rfl rfl) (ah rfl rfl) x0 x1 hc⟩
theorem w8:aR Try.prog dM vM:=psF (mf:=mf_big_Mul) (kb:=140000) (own:=[]) (av (aB (ac eL (ac HS (ac kn (ac pe au))))) (aC aq)) mixed Try.func40 (by kernel_rfl) (by kernel_rfl) fun⟨x0,x1,x2,x3⟩ r hr=>by obtain⟨hc,rfl⟩:=ao hr;exact⟨aim rfl,Qd _ (ah rfl rfl) (ah rfl rfl) (ah rfl rfl) (ah rfl rfl) x0 x1 x2 x3 hc⟩
theorem OF:aR Try.prog o0 KE:=psF (mf:=mf_big_Add) (kb:=160000) (own:=[]) (av (aB (ac eL (ac OM (ac KG (ac I2 (ac oZ (ac kn (ac pe au)))))))) (aC aq)) mixed Try.func70 (by kernel_rfl) (by kernel_rfl) fun⟨x0,x1,x2,x3⟩ r hr=>by obtain⟨hc,rfl⟩:=ao hr;exact⟨aim rfl,QO _ (ah rfl rfl) (ah rfl rfl) (ah rfl rfl) (ah rfl rfl) (ah rfl rfl) (ah rfl rfl) (ah rfl rfl) x0 x1 x2 x3 hc⟩
theorem CG:aR Try.prog kt rC:=psF (mf:=mf_big_Compare) (kb:=154000) (own:=[]) (av (aB (ac eL (ac DX (ac oZ au)))) (aC aq)) mixed Try.func38 (by kernel_rfl) (by kernel_rfl) fun⟨x0,x1,x2,x3⟩ r hr=>by obtain⟨hc,rfl⟩:=ao hr;exact⟨aim rfl,GF _ (ah rfl rfl) (ah rfl rfl) (ah rfl rfl) x0 x1 x2 x3 hc⟩
theorem J9:aR Try.prog kR El:=psF (mf:=mf_big_Gcd) (kb:=137000) (own:=[]) (av (aB (ac eL (ac qC (ac KC (ac kn (ac pe au)))))) (aC aq)) mixed Try.func61 (by kernel_rfl) (by kernel_rfl) fun⟨x0,x1,x2,x3⟩ r hr=>by obtain⟨hc,rfl⟩:=ao hr;exact⟨aim rfl,Rj _ (ah rfl rfl) (ah rfl rfl) (ah rfl rfl) (ah rfl rfl) (ah rfl rfl) x0 x1 x2 x3 hc⟩
theorem HL:aR Try.prog iu Ey:=psF (mf:=mf_big_Div) (kb:=153000) (own:=[]) (av (aB (ac eL (ac KC (ac KG (ac I2 (ac kn au)))))) (aC aq)) mixed Try.func37 (by kernel_rfl) (by kernel_rfl) fun⟨x0,x1,x2,x3⟩ r hr=>by obtain⟨hc,rfl⟩:=ao hr;exact⟨aim rfl,Qc _ (ah rfl rfl) (ah rfl rfl) (ah rfl rfl) (ah rfl rfl) (ah rfl rfl) x0 x1 x2 x3 hc⟩
theorem J1:aR Try.prog oy yu:=psF (mf:=mf_big_Of) (kb:=150000) (own:=[]) (av (aB (ac kn au)) (aC aq)) mixed Try.func79 (by kernel_rfl) (by kernel_rfl) fun x0 r hr=>by obtain⟨hc,rfl⟩:=ao hr;exact⟨aim rfl,Ml _ (ah rfl rfl) x0 hc⟩
theorem FN:aR Try.prog pC vg:=psF (mf:=mf_big_Int) (kb:=159000) (own:=[]) (av (aB (ac eL au)) (aC aq)) mixed Try.func86 (by kernel_rfl) (by kernel_rfl) fun⟨x0,x1⟩ r hr=>by obtain⟨hc,rfl⟩:=ao hr;exact⟨aim rfl,Iq _ (ah rfl rfl) x0 x1 hc⟩
theorem Mh:aR Try.prog nB DO:=psF (mf:=mf_frac_one) (kb:=138000) (own:=[]) (av (aB (ac FN au)) (aC aq)) mixed Try.func62 (by kernel_rfl) (by kernel_rfl) fun⟨x0,x1⟩ r hr=>by obtain⟨hc,rfl⟩:=ao hr;exact⟨aim rfl,OP _ (ah rfl rfl) x0 x1 hc⟩
theorem fR:aR Try.prog aT ff:=psF (mf:=mf_frac_Right) (kb:=116000) (own:=[]) (av (aB (ac eL (ac J9 (ac Mh au)))) (aC aq)) mixed Try.func33 (by kernel_rfl) (by kernel_rfl) fun⟨x0,x1,x2,x3⟩ r hr=>by obtain⟨hc,rfl⟩:=ao hr;exact⟨aim rfl,Jf _ (ah rfl rfl) (ah rfl rfl) (ah rfl rfl) x0 x1 x2 x3 hc⟩
theorem EO:aR Try.prog jB y0:=psF (mf:=mf_frac_New) (kb:=149000) (own:=[]) (av (aB (ac eL (ac KL (ac J9 (ac HL au))))) (aC aq)) mixed Try.func73 (by kernel_rfl) (by kernel_rfl) fun⟨x0,x1,x2,x3⟩ r hr=>by obtain⟨hc,rfl⟩:=ao hr;exact⟨aim rfl,NR _ (ah rfl rfl) (ah rfl rfl) (ah rfl rfl) (ah rfl rfl) x0 x1 x2 x3 hc⟩
theorem DE:aR Try.prog iy Aj:=psF (mf:=mf_frac_Of) (kb:=130000) (own:=[]) (av (aB (ac J1 (ac EO au))) (aC aq)) mixed Try.func47 (by kernel_rfl) (by kernel_rfl) fun⟨x0,x1⟩ r hr=>by obtain⟨hc,rfl⟩:=ao hr;exact⟨aim rfl,RQ _ (ah rfl rfl) (ah rfl rfl) x0 x1 hc⟩
theorem MB:aR Try.prog n0 B4:=psF (mf:=mf_frac_sum) (kb:=139000) (own:=[]) (av (aB (ac w8 (ac OF au))) (aC aq)) mixed Try.func39 (by kernel_rfl) (by kernel_rfl) fun⟨x0,x1,x2,x3,x4,x5,x6,x7⟩ r hr=>by obtain⟨hc,rfl⟩:=ao hr;exact⟨aim rfl,OB _ (ah rfl rfl) (ah rfl rfl) x0 x1 x2 x3 x4 x5 x6 x7 hc⟩
theorem tN:aR Try.prog dz p8:=psF (mf:=mf_frac_quotient) (kb:=141000) (own:=[]) (av (aB (ac EO au)) (aC aq)) mixed Try.func41 (by kernel_rfl) (by kernel_rfl) fun⟨x0,x1,x2,x3,x4,x5⟩ r hr=>by obtain⟨hc,rfl⟩:=ao hr;exact⟨aim rfl,LV _ (ah rfl rfl) x0 x1 x2 x3 x4 x5 hc⟩
theorem sZ:aR Try.prog dU mN:=psF (mf:=mf_frac_Add) (kb:=119000) (own:=[]) (av (aB (ac fR (ac MB (ac w8 (ac tN au))))) (aC aq)) mixed Try.func13 (by kernel_rfl) (by kernel_rfl) fun⟨x0,x1,x2,x3,x4,x5,x6,x7⟩ r hr=>by obtain⟨hc,rfl⟩:=ao hr;exact⟨aim rfl,NL _ (ah rfl rfl) (ah rfl rfl) (ah rfl rfl) (ah rfl rfl) x0 x1 x2 x3 x4 x5 x6 x7 hc⟩
theorem yk:aR Try.prog dW mE:=psF (mf:=mf_frac_Sub) (kb:=132000) (own:=[]) (av (aB (ac fR (ac KL (ac sZ au)))) (aC aq)) mixed Try.func48 (by kernel_rfl) (by kernel_rfl) fun⟨x0,x1,x2,x3,x4,x5,x6,x7⟩ r hr=>by obtain⟨hc,rfl⟩:=ao hr;exact⟨aim rfl,N3 _ (ah rfl rfl) (ah rfl rfl) (ah rfl rfl) x0 x1 x2 x3 x4 x5 x6 x7 hc⟩
theorem yR:aR Try.prog dI lC:=psF (mf:=mf_frac_Mul) (kb:=134000) (own:=[]) (av (aB (ac fR (ac w8 (ac tN au)))) (aC aq)) mixed Try.func18 (by kernel_rfl) (by kernel_rfl) fun⟨x0,x1,x2,x3,x4,x5,x6,x7⟩ r hr=>by obtain⟨hc,rfl⟩:=ao hr;exact⟨aim rfl,N0 _ (ah rfl rfl) (ah rfl rfl) (ah rfl rfl) x0 x1 x2 x3 x4 x5 x6 x7 hc⟩
theorem Ef:aR Try.prog gy o5:=psF (mf:=mf_frac_Div) (kb:=169000) (own:=[]) (av (aB (ac fR (ac w8 (ac tN au)))) (aC aq)) mixed Try.func85 (by kernel_rfl) (by kernel_rfl) fun⟨x0,x1,x2,x3,x4,x5,x6,x7⟩ r hr=>by obtain⟨hc,rfl⟩:=ao hr;exact⟨aim rfl,Ny _ (ah rfl rfl) (ah rfl rfl) (ah rfl rfl) x0 x1 x2 x3 x4 x5 x6 x7 hc⟩
theorem gz:aR Try.prog a0 dx:=psF (mf:=mf_frac_Compare) (kb:=135000) (own:=[]) (av (aB (ac fR (ac HL (ac CG au)))) (aC aq)) mixed Try.func12 (by kernel_rfl) (by kernel_rfl) fun⟨x0,x1,x2,x3,x4,x5,x6,x7⟩ r hr=>by obtain⟨hc,rfl⟩:=ao hr;exact⟨aim rfl,CA _ (ah rfl rfl) (ah rfl rfl) (ah rfl rfl) x0 x1 x2 x3 x4 x5 x6 x7 hc⟩
theorem wl:aR Try.prog ay qN:=psF (mf:=mf_linear_Right_1) (kb:=125000) (own:=[]) (av (aB (ac fR au)) (aC aq)) mixed Try.func111 (by kernel_rfl) (by kernel_rfl) fun⟨x0,x1,x2,x3⟩ r hr=>by obtain⟨hc,rfl⟩:=ao hr;exact⟨aim rfl,HD _ (ah rfl rfl) x0 x1 x2 x3 hc⟩
theorem Fd:aR Try.prog bn u9:=psF (mf:=mf_clear_Fits_1) (kb:=234000) (own:=[]) (av (aB (ac fR au)) (aC aq)) mixed Try.func32 (by kernel_rfl) (by kernel_rfl) fun⟨x0,x1,x2,x3⟩ r hr=>by obtain⟨hc,rfl⟩:=ao hr;exact⟨aim rfl,I9 _ (ah rfl rfl) x0 x1 x2 x3 hc⟩
theorem GX:aR Try.prog eS tR:=psF (mf:=mf_slices_IndexFunc_Frac) (kb:=146000) (own:=[]) (av (aB (ac wl (ac Fd au))) (aC aq)) mixed Try.func63 (by kernel_rfl) (by kernel_rfl) fun⟨x0,x1⟩ r hr=>by obtain⟨hc,rfl⟩:=ao hr;exact⟨aim rfl,Ia _ (ah rfl rfl) (ah rfl rfl) x0 x1 hc⟩
theorem uP:aR Try.prog cy og:=psF (mf:=mf_slices_ContainsFunc_Frac) (kb:=128000) (own:=[]) (av (aB (ac GX au)) (aC aq)) mixed Try.func34 (by kernel_rfl) (by kernel_rfl) fun⟨x0,x1⟩ r hr=>by obtain⟨hc,rfl⟩:=ao hr;exact⟨aim rfl,Hk _ (ah rfl rfl) x0 x1 hc⟩
theorem zX:aR Try.prog bz pz:=psF (mf:=mf_linear_Right_2) (kb:=127000) (own:=[]) (av (aB (ac wl (ac uP au))) (aC aq)) mixed Try.func113 (by kernel_rfl) (by kernel_rfl) fun⟨x0,x1,x2,x3,x4,x5⟩ r hr=>by obtain⟨hc,rfl⟩:=ao hr;exact⟨aim rfl,Cy _ (ah rfl rfl) (ah rfl rfl) x0 x1 x2 x3 x4 x5 hc⟩
theorem JQ:aR Try.prog fi w7:=psF (mf:=mf_slices_IndexFunc_Row) (kb:=145000) (own:=[]) (av (aB (ac zX au)) (aC aq)) mixed Try.func116 (by kernel_rfl) (by kernel_rfl) fun⟨x0,x1⟩ r hr=>by obtain⟨hc,rfl⟩:=ao hr;exact⟨aim rfl,Mu _ (ah rfl rfl) x0 x1 hc⟩
theorem GH:aR Try.prog ei vf:=psF (mf:=mf_slices_ContainsFunc_Row) (kb:=126000) (own:=[]) (av (aB (ac JQ au)) (aC aq)) mixed Try.func112 (by kernel_rfl) (by kernel_rfl) fun⟨x0,x1⟩ r hr=>by obtain⟨hc,rfl⟩:=ao hr;exact⟨aim rfl,It _ (ah rfl rfl) x0 x1 hc⟩
theorem Bg:aR Try.prog jP pw:=psF (mf:=mf_linear_Right) (kb:=108000) (own:=[]) (av (aB (ac GH au)) (aC aq)) mixed Try.func104 (by kernel_rfl) (by kernel_rfl) fun⟨x0,x1⟩ r hr=>by obtain⟨hc,rfl⟩:=ao hr;exact⟨aim rfl,CW _ (ah rfl rfl) x0 x1 hc⟩
theorem LW:iz Try.prog bW (mkU nh):=GN (mf:=mf_linear_matrix_note) (kb:=168000) (own:=[]) (av (aB au) (aC aq)) mixed Try.func118 (by kernel_rfl) (by kernel_rfl) E7 fun args mem r k g i d h=>by
 obtain⟨h1,h2,h3,h4,h5⟩:=NU _ args mem r k g i d h;exact⟨h1,h2,h3,h4,h5⟩
theorem Mz:aR Try.prog gm xC:=psF (mf:=mf_linear_zero) (kb:=167000) (own:=[]) (av (aB au) (aC aq)) mixed Try.func117 (by kernel_rfl) (by kernel_rfl) fun⟨x0,x1,x2,x3⟩ r hr=>by obtain rfl:=Option.some.inj hr;exact⟨aim rfl,w_zero _  x0 x1 x2 x3⟩
theorem Jb:iz Try.prog fF (mkQ qD):=rf (mf:=mf_linear_matrix_pivot) (kb:=148000) (own:=[3000106,3000165,3000169]) (av (aB (ac Mz (ac Ef (ac yk (ac yR au))))) (aC (eJ LW aq))) mixed Try.func115 (by kernel_rfl) (by kernel_rfl) fun args mem R h=>by
 obtain⟨a,rfl,⟨h1,h2,h3,h4,h5,h6,h7⟩,rfl⟩:=zY h;exact⟨aim rfl,Mk _ (ah rfl rfl) (ny rfl rfl) (ah rfl rfl) (ah rfl rfl) (ah rfl rfl) a.go a.N a.rows a.r a.c mem h1 h2 h3 h4 h5 h6 h7⟩
theorem G7:aR Try.prog eP pV:=psF (mf:=mf_slices_Clone_Frac) (kb:=147000) (own:=[5]) (av (aB au) (aC aq)) mixed Try.func114 (by kernel_rfl) (by kernel_rfl) fun x0 r hr=>by obtain⟨hc,rfl⟩:=ao hr;exact⟨aim rfl,HR _  x0 hc⟩
theorem LC:aR Try.prog gB xL:=psF (mf:=mf_linear_eliminated) (kb:=129000) (own:=[29,34]) (av (aB (ac G7 au)) (aC (eJ Jb aq))) mixed Try.func105 (by kernel_rfl) (by kernel_rfl) fun⟨x0,x1,x2⟩ r hr=>by obtain⟨hc,rfl⟩:=ao hr;exact⟨aim rfl,Oq _ (ah rfl rfl) (ny rfl rfl) x0 x1 x2 hc⟩
theorem Ar:aR Try.prog jN px:=psF (mf:=mf_linear_Solve) (kb:=109000) (own:=[]) (av (aB (ac Bg (ac LC au))) (aC aq)) mixed Try.func98 (by kernel_rfl) (by kernel_rfl) fun⟨x0,x1⟩ r hr=>by obtain⟨hc,rfl⟩:=ao hr;exact⟨aim rfl,DH _ (ah rfl rfl) (ah rfl rfl) x0 x1 hc⟩
theorem Jp:aR Try.prog it xA:=psF (mf:=mf_math_bits_Mul64) (kb:=171000) (own:=[]) (av (aB au) (aC aq)) mixed Try.func110 (by kernel_rfl) (by kernel_rfl) fun x0 r hr=>by obtain⟨hc,rfl⟩:=ao hr;exact⟨aim rfl,Lu _  x0 hc⟩
theorem LF:aR Try.prog je DP:=psF (mf:=mf_math_bits_Mul) (kb:=151000) (own:=[]) (av (aB (ac Jp au)) (aC aq)) mixed Try.func103 (by kernel_rfl) (by kernel_rfl) fun x0 r hr=>by obtain⟨hc,rfl⟩:=ao hr;exact⟨aim rfl,Of _ (ah rfl rfl) x0 hc⟩
theorem DA:aR Try.prog f5 rj:=psF (mf:=mf_slices_Repeat_Frac) (kb:=131000) (own:=[]) (av (aB (ac LF au)) (aC aq)) mixed Try.func97 (by kernel_rfl) (by kernel_rfl) fun⟨x0,x1,x2,x3,x4⟩ r hr=>by obtain⟨hc,rfl⟩:=ao hr;exact⟨aim rfl,FJ _ (ah rfl rfl) x0 x1 x2 x3 x4 hc⟩
theorem nQ:aR Try.prog cu li:=psF (mf:=mf_ref04_trim) (kb:=183000) (own:=[18]) (av (aB au) (aC aq)) mixed Try.func102 (by kernel_rfl) (by kernel_rfl) fun x0 r hr=>by obtain⟨hc,rfl⟩:=ao hr;exact⟨aim rfl,MY _  x0 hc⟩
theorem ov:aR Try.prog bY mo:=psF (mf:=mf_ref04_digit) (kb:=187000) (own:=[]) (av (aB au) (aC aq)) mixed Try.func108 (by kernel_rfl) (by kernel_rfl) fun⟨x0,x1⟩ r hr=>by obtain⟨hc,rfl⟩:=ao hr;exact⟨aim rfl,Jc _  x0 x1 hc⟩
theorem Hu:aR Try.prog jw sO:=psF (mf:=mf_ref04_less) (kb:=185000) (own:=[]) (av (aB (ac ov au)) (aC aq)) mixed Try.func106 (by kernel_rfl) (by kernel_rfl) fun⟨x0,x1⟩ r hr=>by obtain⟨hc,rfl⟩:=ao hr;exact⟨aim rfl,LA _ (ah rfl rfl) x0 x1 hc⟩
theorem H6:aR Try.prog lv xq:=psF (mf:=mf_ref04_plus) (kb:=181000) (own:=[]) (av (aB (ac ov (ac nQ au))) (aC aq)) mixed Try.func100 (by kernel_rfl) (by kernel_rfl) fun⟨x0,x1⟩ r hr=>by obtain⟨hc,rfl⟩:=ao hr;exact⟨aim rfl,Le _ (ah rfl rfl) (ah rfl rfl) x0 x1 hc⟩
theorem wk:aR Try.prog gw qT:=psF (mf:=mf_ref04_minus) (kb:=182000) (own:=[]) (av (aB (ac ov (ac nQ au))) (aC aq)) mixed Try.func101 (by kernel_rfl) (by kernel_rfl) fun⟨x0,x1⟩ r hr=>by obtain⟨hc,rfl⟩:=ao hr;exact⟨aim rfl,IA _ (ah rfl rfl) (ah rfl rfl) x0 x1 hc⟩
theorem Gj:aR Try.prog gG qO:=psF (mf:=mf_ref04_times) (kb:=186000) (own:=[]) (av (aB (ac ov (ac nQ au))) (aC aq)) mixed Try.func107 (by kernel_rfl) (by kernel_rfl) fun⟨x0,x1⟩ r hr=>by obtain⟨hc,rfl⟩:=ao hr;exact⟨aim rfl,HA _ (ah rfl rfl) (ah rfl rfl) x0 x1 hc⟩
theorem AF:aR Try.prog gZ sT:=psF (mf:=mf_ref04_over) (kb:=180000) (own:=[26]) (av (aB (ac nQ (ac Gj (ac Hu (ac wk au))))) (aC aq)) mixed Try.func99 (by kernel_rfl) (by kernel_rfl) fun⟨x0,x1⟩ r hr=>by obtain⟨hc,rfl⟩:=ao hr;exact⟨aim rfl,Ln _ (ah rfl rfl) (ah rfl rfl) (ah rfl rfl) (ah rfl rfl) x0 x1 hc⟩
theorem qb:aR Try.prog cD oh:=psF (mf:=mf_ref04_made) (kb:=166000) (own:=[]) (av (aB (ac nQ au)) (aC aq)) mixed Try.func96 (by kernel_rfl) (by kernel_rfl) fun⟨x0,x1⟩ r hr=>by obtain⟨hc,rfl⟩:=ao hr;exact⟨aim rfl,L0 _ (ah rfl rfl) x0 x1 hc⟩
theorem ol:aR Try.prog cr lT:=psF (mf:=mf_ref04_Right) (kb:=162000) (own:=[]) (av (aB au) (aC aq)) mixed Try.func92 (by kernel_rfl) (by kernel_rfl) fun⟨x0,x1⟩ r hr=>by obtain⟨hc,rfl⟩:=ao hr;exact⟨aim rfl,Jx _  x0 x1 hc⟩
theorem K0:aR Try.prog jY Dt:=psF (mf:=mf_ref04_Neg) (kb:=163000) (own:=[]) (av (aB (ac ol (ac qb au))) (aC aq)) mixed Try.func93 (by kernel_rfl) (by kernel_rfl) fun⟨x0,x1⟩ r hr=>by obtain⟨hc,rfl⟩:=ao hr;exact⟨aim rfl,NI _ (ah rfl rfl) (ah rfl rfl) x0 x1 hc⟩
theorem O4:aR Try.prog lc HO:=psF (mf:=mf_ref04_Of) (kb:=144000) (own:=[]) (av (aB (ac qb au)) (aC aq)) mixed Try.func75 (by kernel_rfl) (by kernel_rfl) fun x0 r hr=>by obtain⟨hc,rfl⟩:=ao hr;exact⟨aim rfl,RI _ (ah rfl rfl) x0 hc⟩
theorem MQ:aR Try.prog mF DB:=psF (mf:=mf_ref04_Gcd) (kb:=164000) (own:=[]) (av (aB (ac ol (ac AF (ac qb au)))) (aC aq)) mixed Try.func94 (by kernel_rfl) (by kernel_rfl) fun⟨x0,x1,x2,x3⟩ r hr=>by obtain⟨hc,rfl⟩:=ao hr;exact⟨aim rfl,NA _ (ah rfl rfl) (ah rfl rfl) (ah rfl rfl) x0 x1 x2 x3 hc⟩
theorem Md:aR Try.prog j8 CU:=psF (mf:=mf_ref04_Div) (kb:=165000) (own:=[]) (av (aB (ac ol (ac AF (ac H6 (ac wk (ac qb au)))))) (aC aq)) mixed Try.func95 (by kernel_rfl) (by kernel_rfl) fun⟨x0,x1,x2,x3⟩ r hr=>by obtain⟨hc,rfl⟩:=ao hr;exact⟨aim rfl,Ob _ (ah rfl rfl) (ah rfl rfl) (ah rfl rfl) (ah rfl rfl) (ah rfl rfl) x0 x1 x2 x3 hc⟩
theorem Li:aR Try.prog nf Cv:=psF (mf:=mf_ref05_New) (kb:=143000) (own:=[]) (av (aB (ac ol (ac K0 (ac MQ (ac Md au))))) (aC aq)) mixed Try.func74 (by kernel_rfl) (by kernel_rfl) fun⟨x0,x1,x2,x3⟩ r hr=>by obtain⟨hc,rfl⟩:=ao hr;exact⟨aim rfl,OH _ (ah rfl rfl) (ah rfl rfl) (ah rfl rfl) (ah rfl rfl) x0 x1 x2 x3 hc⟩
theorem OG:aR Try.prog nF Kb:=psF (mf:=mf_ref05_Of) (kb:=124000) (own:=[]) (av (aB (ac O4 (ac Li au))) (aC aq)) mixed Try.func42 (by kernel_rfl) (by kernel_rfl) fun⟨x0,x1⟩ r hr=>by obtain⟨hc,rfl⟩:=ao hr;exact⟨aim rfl,RY _ (ah rfl rfl) (ah rfl rfl) x0 x1 hc⟩
theorem jr:aR Try.prog be fh:=psF (mf:=mf_clear_whole) (kb:=230000) (own:=[]) (av (aB (ac DE au)) (aC aq)) mixed Try.func28 (by kernel_rfl) (by kernel_rfl) fun x0 r hr=>by obtain⟨hc,rfl⟩:=ao hr;exact⟨aim rfl,J3 _ (ah rfl rfl) x0 hc⟩
theorem vN:aR Try.prog cE lR:=psF (mf:=mf_rank_whole) (kb:=241000) (own:=[]) (av (aB (ac DE au)) (aC aq)) mixed Try.func51 (by kernel_rfl) (by kernel_rfl) fun x0 r hr=>by obtain⟨hc,rfl⟩:=ao hr;exact⟨aim rfl,IF _ (ah rfl rfl) x0 hc⟩
theorem FU:aR Try.prog lf pR:=psF (mf:=mf_law20_of) (kb:=219000) (own:=[]) (av (aB (ac OG au)) (aC aq)) mixed Try.func14 (by kernel_rfl) (by kernel_rfl) fun x0 r hr=>by obtain⟨hc,rfl⟩:=ao hr;exact⟨aim rfl,I5 _ (ah rfl rfl) x0 hc⟩
theorem LP:aR Try.prog mM Ci:=psF (mf:=mf_ref20_Few) (kb:=216000) (own:=[]) (av (aB au) (aC aq)) mixed Try.func8 (by kernel_rfl) (by kernel_rfl) fun⟨x0,x1⟩ r hr=>by obtain rfl:=Option.some.inj hr;exact⟨aim rfl,OZ _  x0 x1⟩
theorem J2:aR Try.prog bm E5:=psF (mf:=mf_clear_right_1) (kb:=243000) (own:=[]) (av (aB au) (aC aq)) mixed Try.func53 (by kernel_rfl) (by kernel_rfl) fun⟨x0,x1,x2⟩ r hr=>by obtain rfl:=Option.some.inj hr;exact⟨aim rfl,Qv _  x0 x1 x2⟩
theorem NE:aR Try.prog fq Ks:=psF (mf:=mf_clear_right_2) (kb:=244000) (own:=[]) (av (aB (ac J2 au)) (aC aq)) mixed Try.func54 (by kernel_rfl) (by kernel_rfl) fun x0 r hr=>by obtain rfl:=Option.some.inj hr;exact⟨aim rfl,RO _ (ah rfl rfl) x0⟩
theorem Oe:aR Try.prog fw JC:=psF (mf:=mf_clear_right_3) (kb:=245000) (own:=[]) (av (aB (ac J2 au)) (aC aq)) mixed Try.func55 (by kernel_rfl) (by kernel_rfl) fun⟨x0,x1,x2,x3,x4⟩ r hr=>by obtain⟨hc,rfl⟩:=ao hr;exact⟨aim rfl,Qm _ (ah rfl rfl) x0 x1 x2 x3 x4 hc⟩
theorem C1:aR Try.prog fm rH:=psF (mf:=mf_clear_Solve_1) (kb:=232000) (own:=[]) (av (aB (ac jr (ac gz au))) (aC aq)) mixed Try.func30 (by kernel_rfl) (by kernel_rfl) fun⟨x0,x1,x2⟩ r hr=>by obtain⟨hc,rfl⟩:=ao hr;exact⟨aim rfl,F9 _ (ah rfl rfl) (ah rfl rfl) x0 x1 x2 hc⟩
theorem uw:aR Try.prog fk ou:=psF (mf:=mf_rescue_amount) (kb:=251000) (own:=[]) (av (aB au) (aC aq)) mixed Try.func77 (by kernel_rfl) (by kernel_rfl) fun x0 r hr=>by obtain rfl:=Option.some.inj hr;exact⟨aim rfl,GQ _  x0⟩
theorem J0:aR Try.prog ik xN:=psF (mf:=mf_rescue_day_1) (kb:=250000) (own:=[]) (av (aB (ac uw au)) (aC aq)) mixed Try.func76 (by kernel_rfl) (by kernel_rfl) fun x0 r hr=>by obtain rfl:=Option.some.inj hr;exact⟨aim rfl,LN _ (ah rfl rfl) x0⟩
theorem zR:aR Try.prog ca oF:=psF (mf:=mf_slices_IndexFunc_int) (kb:=231000) (own:=[]) (av (aB (ac NE (ac J0 (ac C1 au)))) (aC aq)) mixed Try.func29 (by kernel_rfl) (by kernel_rfl) fun⟨x0,x1⟩ r hr=>by obtain⟨hc,rfl⟩:=ao hr;exact⟨aim rfl,L1 _ (ah rfl rfl) (ah rfl rfl) (ah rfl rfl) x0 x1 hc⟩
theorem Ha:aR Try.prog dZ uQ:=psF (mf:=mf_slices_ContainsFunc_int) (kb:=246000) (own:=[]) (av (aB (ac zR au)) (aC aq)) mixed Try.func56 (by kernel_rfl) (by kernel_rfl) fun⟨x0,x1⟩ r hr=>by obtain⟨hc,rfl⟩:=ao hr;exact⟨aim rfl,II _ (ah rfl rfl) x0 x1 hc⟩
theorem CV:aR Try.prog fy ri:=psF (mf:=mf_rank_within) (kb:=253000) (own:=[]) (av (aB au) (aC aq)) mixed Try.func81 (by kernel_rfl) (by kernel_rfl) fun⟨x0,x1,x2⟩ r hr=>by obtain rfl:=Option.some.inj hr;exact⟨aim rfl,GE _  x0 x1 x2⟩
theorem vY:aR Try.prog ia qa:=psF (mf:=mf_rank_right) (kb:=240000) (own:=[]) (av (aB (ac CV au)) (aC aq)) mixed Try.func50 (by kernel_rfl) (by kernel_rfl) fun x0 r hr=>by obtain⟨hc,rfl⟩:=ao hr;exact⟨aim rfl,Hz _ (ah rfl rfl) x0 hc⟩
theorem Gi:aR Try.prog lN u6:=psF (mf:=mf_rank_Split) (kb:=249000) (own:=[]) (av (aB (ac fR (ac gz (ac vN (ac vY (ac yR (ac Ef (ac yk au)))))))) (aC aq)) mixed Try.func59 (by kernel_rfl) (by kernel_rfl) fun⟨x0,x1⟩ r hr=>by obtain⟨hc,rfl⟩:=ao hr;exact⟨aim rfl,JS _ (ah rfl rfl) (ah rfl rfl) (ah rfl rfl) (ah rfl rfl) (ah rfl rfl) (ah rfl rfl) (ah rfl rfl) x0 x1 hc⟩
theorem Id:aR Try.prog ii xX:=psF (mf:=mf_rescue_day_2) (kb:=252000) (own:=[]) (av (aB (ac uw au)) (aC aq)) mixed Try.func78 (by kernel_rfl) (by kernel_rfl) fun⟨x0,x1,x2,x3,x4⟩ r hr=>by obtain⟨hc,rfl⟩:=ao hr;exact⟨aim rfl,Lo _ (ah rfl rfl) x0 x1 x2 x3 x4 hc⟩
theorem Di:aR Try.prog eH rt:=psF (mf:=mf_slices_IndexFunc_Claim) (kb:=254000) (own:=[]) (av (aB (ac Oe (ac Id au))) (aC aq)) mixed Try.func82 (by kernel_rfl) (by kernel_rfl) fun⟨x0,x1⟩ r hr=>by obtain⟨hc,rfl⟩:=ao hr;exact⟨aim rfl,Gu _ (ah rfl rfl) (ah rfl rfl) x0 x1 hc⟩
theorem Ak:aR Try.prog dO pA:=psF (mf:=mf_slices_ContainsFunc_Claim) (kb:=247000) (own:=[]) (av (aB (ac Di au)) (aC aq)) mixed Try.func57 (by kernel_rfl) (by kernel_rfl) fun⟨x0,x1⟩ r hr=>by obtain⟨hc,rfl⟩:=ao hr;exact⟨aim rfl,Df _ (ah rfl rfl) x0 x1 hc⟩
theorem wj:aR Try.prog gv qQ:=psF (mf:=mf_clear_right) (kb:=227000) (own:=[]) (av (aB (ac Ha (ac Ak au))) (aC aq)) mixed Try.func25 (by kernel_rfl) (by kernel_rfl) fun⟨x0,x1⟩ r hr=>by obtain⟨hc,rfl⟩:=ao hr;exact⟨aim rfl,HH _ (ah rfl rfl) (ah rfl rfl) x0 x1 hc⟩
theorem zy:aR Try.prog eO qM:=psF (mf:=mf_clear_payments) (kb:=233000) (own:=[]) (av (aB (ac Gi au)) (aC aq)) mixed Try.func31 (by kernel_rfl) (by kernel_rfl) fun⟨x0,x1⟩ r hr=>by obtain⟨hc,rfl⟩:=ao hr;exact⟨aim rfl,LB _ (ah rfl rfl) x0 x1 hc⟩
theorem CB:iz Try.prog dS (mkN ot):=pf (mf:=mf_clear_debtor_shares) (kb:=255000) (own:=[17]) (av (aB (ac jr (ac DA (ac DE (ac sZ au))))) (aC aq)) mixed Try.func83 (by kernel_rfl) (by kernel_rfl) (fun j=>j / 1000=255) fun args mem d h=>by
 obtain⟨a,⟨rfl,ha⟩,rfl⟩:=DM h;exact⟨aim rfl,ha.no,FM _ (ah rfl rfl) (ah rfl rfl) (ah rfl rfl) (ah rfl rfl) a.1 a.2 mem ha⟩
theorem GU:iz Try.prog kV (mkN pP):=pf (mf:=mf_clear_solve) (kb:=256000) (own:=[]) (av (aB (ac jr (ac yk (ac Ar au)))) (aC aq)) mixed Try.func84 (by kernel_rfl) (by kernel_rfl) (fun j=>j / 1000=256) fun args mem d h=>by
 obtain⟨a,⟨rfl,ha⟩,rfl⟩:=DM h;exact⟨aim rfl,ha.no,IL _ (ah rfl rfl) (ah rfl rfl) (ah rfl rfl) a mem ha⟩
theorem Jg:iz Try.prog lE (mkN ye):=pf (mf:=mf_clear_list) (kb:=248000) (own:=[]) (av (aB (ac jr (ac yR (ac sZ au)))) (aC (eJ CB (eJ GU aq)))) mixed Try.func58 (by kernel_rfl) (by kernel_rfl) (fun j=>j / 1000=248) fun args mem d h=>by
 obtain⟨a,⟨rfl,ha⟩,rfl⟩:=DM h;exact⟨aim rfl,ha.n1,Lf _ (ah rfl rfl) (ny rfl rfl) (ny rfl rfl) (ah rfl rfl) (ah rfl rfl) a mem ha⟩
theorem Gw:iz Try.prog iT (mkQ nz):=rf (mf:=mf_clear_round) (kb:=229000) (own:=[]) (av (aB (ac jr (ac gz au))) (aC (eJ Jg aq))) mixed Try.func27 (by kernel_rfl) (by kernel_rfl) fun args mem R h=>by
 obtain⟨a,⟨rfl,ha⟩,rfl⟩:=CP h;exact⟨aim rfl,JH _ (ny rfl rfl) (ah rfl rfl) (ah rfl rfl) a mem ha⟩
theorem JV:iz Try.prog lG (mkQ ym):=rf (mf:=mf_clear_open) (kb:=228000) (own:=[22]) (av (aB au) (aC aq)) mixed Try.func26 (by kernel_rfl) (by kernel_rfl) fun args mem R h=>by
 obtain⟨a,⟨rfl,ha⟩,rfl⟩:=CP h;exact⟨aim rfl,Lg _  a.1 a.2 mem ha⟩
theorem r5:aR Try.prog en l7:=psF (mf:=mf_clear_Solve) (kb:=217000) (own:=[]) (av (aB (ac wj (ac jr (ac gz (ac zR (ac zy au)))))) (aC (eJ JV (eJ Gw aq)))) mixed Try.func10 (by kernel_rfl) (by kernel_rfl) fun⟨x0,x1⟩ r hr=>by obtain⟨hc,rfl⟩:=ao hr;exact⟨aim rfl,JZ _ (ah rfl rfl) (ny rfl rfl) (ny rfl rfl) (ah rfl rfl) (ah rfl rfl) (ah rfl rfl) (ah rfl rfl) x0 x1 hc⟩
theorem KI:aR Try.prog dm xQ:=psF (mf:=mf_clear_Fits_2) (kb:=236000) (own:=[]) (av (aB (ac gz au)) (aC aq)) mixed Try.func36 (by kernel_rfl) (by kernel_rfl) fun⟨x0,x1,x2,x3,x4,x5,x6,x7⟩ r hr=>by obtain⟨hc,rfl⟩:=ao hr;exact⟨aim rfl,LH _ (ah rfl rfl) x0 x1 x2 x3 x4 x5 x6 x7 hc⟩
theorem Hb:aR Try.prog eW u7:=psF (mf:=mf_slices_EqualFunc_Frac) (kb:=235000) (own:=[]) (av (aB (ac KI au)) (aC aq)) mixed Try.func35 (by kernel_rfl) (by kernel_rfl) fun⟨x0,x1⟩ r hr=>by obtain⟨hc,rfl⟩:=ao hr;exact⟨aim rfl,HZ _ (ah rfl rfl) x0 x1 hc⟩
theorem JJ:aR Try.prog lI sY:=psF (mf:=mf_clear_Fits) (kb:=218000) (own:=[]) (av (aB (ac wj (ac uP (ac zy (ac jr (ac sZ (ac Hb au))))))) (aC aq)) mixed Try.func11 (by kernel_rfl) (by kernel_rfl) fun⟨x0,x1,x2⟩ r hr=>by obtain⟨hc,rfl⟩:=ao hr;exact⟨aim rfl,Lm _ (ah rfl rfl) (ah rfl rfl) (ah rfl rfl) (ah rfl rfl) (ah rfl rfl) (ah rfl rfl) x0 x1 x2 hc⟩
theorem t9:aR Try.prog gT lD:=psF (mf:=mf_ref20_SameRounds) (kb:=242000) (own:=[]) (av (aB au) (aC aq)) mixed Try.func52 (by kernel_rfl) (by kernel_rfl) fun⟨x0,x1⟩ r hr=>by obtain⟨hc,rfl⟩:=ao hr;exact⟨aim rfl,vt _  x0 x1 hc⟩
theorem L2:aR Try.prog gM DG:=psF (mf:=mf_law20_has) (kb:=226000) (own:=[]) (av (aB (ac r5 (ac t9 (ac FU (ac gz (ac fR (ac JJ au))))))) (aC aq)) mixed Try.func23 (by kernel_rfl) (by kernel_rfl) fun⟨x0,x1,x2,x3,x4⟩ r hr=>by obtain⟨hc,rfl⟩:=ao hr;exact⟨aim rfl,O9 _ (ah rfl rfl) (ah rfl rfl) (ah rfl rfl) (ah rfl rfl) (ah rfl rfl) (ah rfl rfl) x0 x1 x2 x3 x4 hc⟩
theorem FQ:aR Try.prog kp uq:=psF (mf:=mf_law20_small) (kb:=215000) (own:=[19]) (av (aB (ac L2 (ac r5 au))) (aC aq)) mixed Try.func7 (by kernel_rfl) (by kernel_rfl) fun _ r hr=>by obtain rfl:=Option.some.inj hr;exact⟨aim rfl,H3 _ (ah rfl rfl) (ah rfl rfl) ⟩
theorem Mr:aR Try.prog ni yy:=psF (mf:=mf_law20_own) (kb:=224000) (own:=[]) (av (aB au) (aC aq)) mixed Try.func21 (by kernel_rfl) (by kernel_rfl) fun⟨x0,x1,x2⟩ r hr=>by obtain⟨hc,rfl⟩:=ao hr;exact⟨aim rfl,OS _  x0 x1 x2 hc⟩
theorem Gx:aR Try.prog lK pI:=psF (mf:=mf_rank_Short) (kb:=225000) (own:=[]) (av (aB (ac vY (ac fR (ac vN (ac gz au))))) (aC aq)) mixed Try.func22 (by kernel_rfl) (by kernel_rfl) fun⟨x0,x1⟩ r hr=>by obtain⟨hc,rfl⟩:=ao hr;exact⟨aim rfl,Ib _ (ah rfl rfl) (ah rfl rfl) (ah rfl rfl) (ah rfl rfl) x0 x1 hc⟩
theorem Gb:aR Try.prog oI tC:=psF (mf:=mf_law20_ClearFalls) (kb:=214000) (own:=[]) (av (aB (ac FQ (ac LP (ac r5 (ac Mr (ac Gx au)))))) (aC aq)) mixed Try.func6 (by kernel_rfl) (by kernel_rfl) fun⟨x0,x1⟩ r hr=>by obtain rfl:=Option.some.inj hr;exact⟨aim rfl,JO _ (ah rfl rfl) (ah rfl rfl) (ah rfl rfl) (ah rfl rfl) (ah rfl rfl) x0 x1⟩
end Go.Mini
