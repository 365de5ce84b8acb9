/- A part of the proof. -/
import Derived.Test.YtdbkjjoedjfmpaaM11
import Derived.Test.YtdbkjjoedjfmpaaM14
import Derived.Test.YtdbkjjoedjfmpaaProg
import Derived.KernelRfl
set_option linter.unusedSimpArgs false
set_option linter.unusedVariables false
open List renaming range → ahL, map_cons → ahO, getD_eq_getElem?_getD → ahR, length_set → ahT, getElem?_eq_getElem → ahU, getElem_mem → ahV, length_append → ahY, length_take → ahZ, length_drop → ah0, map → ah1, map_append → ah2, length_map → ah5, take → ah8, drop → ah9, getElem?_map → aia, take_of_length_le → aic
open Rat renaming add_zero → ahM, zero_add → ahN, intCast_natCast → ahW, natCast_nonneg → ahX
open Bool renaming false_eq_true → ahP, not_false → ah4, not_true → ah6
open Option renaming bind_none → ahQ, getD_some → ahS
open Prod renaming ext → ah3
open Nat renaming mod_lt → ah7, le_refl → aid, le_of_ble_eq_true → aie
open Decidable renaming em → aib
namespace Go.Mini
open Classical
theorem tl {d:Day} {f:Nat→Nat} {l:List Nat} (h:d.falls f=l) (hl:l≠[]) (k:Nat):(d.rounds (k+1) f).1=l::(d.rounds k (d.fallen f (d.top f))).1∧(d.rounds (k+1) f).2=(d.rounds k (d.fallen f (d.top f))).2:=by
 rw[Day.rounds,if_neg (by rw[h];exact hl),h];exact⟨rfl,rfl⟩
theorem o5 {d:Day} (hn:d.n=2) (f:Nat→Nat):d.falls f=(if d.top f 0<d.U 0 (f 0) then [0] else [])++if d.top f 1<d.U 1 (f 1) then [1] else []:=by
 unfold Day.falls;rw[hn,show ahL 2=[0,1] from rfl]
 by_cases h0:d.top f 0<d.U 0 (f 0)<;>by_cases h1:d.top f 1<d.U 1 (f 1)<;>simp [h0,h1]
theorem IR {d:Day} (hn:d.n=1) (f:Nat→Nat):d.falls f=(if d.top f 0<d.U 0 (f 0) then [0] else []):=by
 unfold Day.falls;rw[hn,show ahL 1=[0] from rfl]
 by_cases h0:d.top f 0<d.U 0 (f 0)<;>simp [h0]
theorem oA {d:Day} {f:Nat→Nat} {h:Nat→Rat} {i:Nat} (hh:¬ h i<d.U i (f i)):d.fallen f h i=f i:=if_neg fun x=>hh x.2
theorem mo {d:Day} {f:Nat→Nat} {h:Nat→Rat} {i r:Nat} (hi:i<d.n) (hh:h i<d.U i (f i)) (hr:r<10) (h1:∀ j,j<r→d.U i (j+1)≤h i) (h2:h i<d.U i (r+1)):d.fallen f h i=r:=by
 unfold Day.fallen;rw[if_pos ⟨hi,hh⟩]
 have:∀ k,k≤10→10-k≤r→d.fallRank h i k=r:=by
  intro k
  induction k with
  | zero=>intro _ h;omega
  | succ k ih =>
   intro hk hle;rw[Day.fallRank]
   by_cases he:10-(k+1)=r
   ·rw[if_pos (by rw[he];exact h2),he]
   ·rw[if_neg (by have:=h1 (10-(k+1)) (by omega);grind)]
    exact ih (by omega) (by omega)
 exact this 10 (by omega) (by omega)
theorem fK {d:Day} (hd:d.OK) {f:Nat→Nat} (hr:Reach d f):∀ i,i<d.n→d.top f i=d.into (d.q f (d.top f)) i:=by
 obtain⟨g,h1,h2,h3⟩:=Day.top_spec (hd.hex f hr);exact h2
theorem P7 {d:Day} (hn:d.n=2) {f1:Nat→Nat} {l:List Nat} (h:d.falls (fun _=>10)=l) (hl:l≠[]) (hf:d.fallen (fun _=>10) (d.top fun _=>10)=f1) (h1:d.falls f1=[]):d.frs=[l]∧d.gr=d.top f1:=by
 have h2:=tl h hl 19;rw[hf,d.rounds_stop h1] at h2;unfold Day.frs Day.gr Day.fend;rw[hn];exact⟨h2.1,by rw[show 10*2=19+1 from rfl,h2.2]⟩
theorem Ra {d:Day} (hn:d.n=1) {f1:Nat→Nat} {l:List Nat} (h:d.falls (fun _=>10)=l) (hl:l≠[]) (hf:d.fallen (fun _=>10) (d.top fun _=>10)=f1) (h1:d.falls f1=[]):d.frs=[l]∧d.gr=d.top f1:=by
 have h2:=tl h hl 9;rw[hf,d.rounds_stop h1] at h2;unfold Day.frs Day.gr Day.fend;rw[hn];exact⟨h2.1,by rw[show 10*1=9+1 from rfl,h2.2]⟩
def e1:Day:=ab [5,0] [(0,1,0,10),(1,-1,0,4)]
theorem Qm:e1.OK:=mw (by decide)
theorem tq:e1.cl=[⟨0,1,0,10⟩,⟨1,-1,0,4⟩]:=rfl
theorem SU:e1.cash 0=5∧e1.cash 1=0:=⟨rfl,rfl⟩
theorem RJ:e1.gr 0=5∧e1.gr 1=5∧e1.frs=[[0]]:=by
 have hd:=Qm;obtain⟨c0,c1⟩:=SU;have r0:=Reach.start hd;have U0:∀ r,0<r→e1.U 0 r=10:=fun r hr=>by simp [tq,Day.U,sumC,ahM,ahN,hr]
 have U1:∀ r,0<r→e1.U 1 r=4:=fun r hr=>by simp [tq,Day.U,sumC,ahM,ahN,hr]
 have S0:e1.S 0 0=10:=by simp [tq,Day.S,sumC,ahM,ahN]
 have w0:e1.w ⟨0,1,0,10⟩=1:=by simp only[Day.w,S0];decide +kernel
 have t0:e1.top (fun _=>10) 0=5:=by rw[fK hd r0 0 (by decide)];simp [tq,Day.into,Day.q,sumC,c0,ahM,ahN]
 have t1:e1.top (fun _=>10) 1=10:=by rw[fK hd r0 1 (by decide)];simp [tq,Day.into,Day.q,sumC,c1,ahM,ahN]
 have f1:e1.falls (fun _=>10)=[0]:=by
  rw[o5 rfl,t0,t1,U0 10 (by omega),U1 10 (by omega),if_pos (by decide +kernel),if_neg (by decide +kernel)];rfl
 have r1:=r0.next hd hd.hex;have g0:e1.fallen (fun _=>10) (e1.top fun _=>10) 0=0:=mo (by decide) (by rw[t0,U0 10 (by omega)];decide +kernel) (by omega) (fun j hj=>by omega) (by rw[t0,U0 1 (by omega)];decide +kernel);have g1:e1.fallen (fun _=>10) (e1.top fun _=>10) 1=10:=oA (by rw[t1,U1 10 (by omega)];decide +kernel);generalize hF:e1.fallen (fun _=>10) (e1.top fun _=>10)=F at *;have s0:e1.top F 0=5:=by rw[fK hd r1 0 (by decide)];simp [tq,Day.into,Day.q,sumC,c0,ahM,ahN]
 have s1:e1.top F 1=5:=by
  rw[fK hd r1 1 (by decide)];have hp:pos (5-0)=5:=by decide +kernel
  simp [tq,Day.into,Day.q,sumC,c1,g0,g1,w0,s0,e1.U_zero,hp,ahM,ahN]
  try grind
 have f2:e1.falls F=[]:=by
  rw[o5 rfl,s0,s1,g0,g1,e1.U_zero,U1 10 (by omega),if_neg (by decide +kernel),if_neg (by decide +kernel)];rfl
 obtain⟨h1,h2⟩:=P7 rfl f1 (by decide) hF f2;rw[h2];exact⟨s0,s1,h1⟩
def e2:Day:=ab [0,0] [(0,1,1,10),(1,0,1,10)]
theorem Rg:e2.OK:=mw (by decide)
theorem E0:e2.cl=[⟨0,1,1,10⟩,⟨1,0,1,10⟩]:=rfl
theorem Sy:e2.cash 0=0∧e2.cash 1=0:=⟨rfl,rfl⟩
theorem QF:e2.gr 0=10∧e2.gr 1=10∧e2.frs=[]:=by
 have hd:=Rg;obtain⟨c0,c1⟩:=Sy;have r0:=Reach.start hd;have U0:∀ r,1<r→e2.U 0 r=10:=fun r hr=>by simp [E0,Day.U,sumC,ahM,ahN,hr]
 have U1:∀ r,1<r→e2.U 1 r=10:=fun r hr=>by simp [E0,Day.U,sumC,ahM,ahN,hr]
 have t0:e2.top (fun _=>10) 0=10:=by rw[fK hd r0 0 (by decide)];simp [E0,Day.into,Day.q,sumC,c0,ahM,ahN]
 have t1:e2.top (fun _=>10) 1=10:=by rw[fK hd r0 1 (by decide)];simp [E0,Day.into,Day.q,sumC,c1,ahM,ahN]
 have f1:e2.falls (fun _=>10)=[]:=by
  rw[o5 rfl,t0,t1,U0 10 (by omega),U1 10 (by omega),if_neg (by decide +kernel)];rfl
 have h1:=e2.rounds_stop f1 (10*e2.n);unfold Day.gr Day.fend Day.frs;rw[h1];exact⟨t0,t1,rfl⟩
def e4:Day:=ab [9] [(0,-1,0,6),(0,-1,1,2),(0,-1,1,4)]
theorem Q8:e4.OK:=mw (by decide)
theorem ED:e4.cl=[⟨0,-1,0,6⟩,⟨0,-1,1,2⟩,⟨0,-1,1,4⟩]:=rfl
theorem SA:e4.cash 0=9:=rfl
theorem Qk:e4.gr 0=9∧e4.frs=[[0]]:=by
 have hd:=Q8;have c0:=SA;have r0:=Reach.start hd;have tt:∀ f,Reach e4 f→e4.top f 0=9:=fun f hr=>by rw[fK hd hr 0 (by decide)];simp [ED,Day.into,Day.q,sumC,c0,ahM,ahN]
 have U10:e4.U 0 10=12:=by simp only[ED,Day.U,sumC];decide +kernel
 have U1:e4.U 0 1=6:=by simp only[ED,Day.U,sumC];decide +kernel
 have U2:e4.U 0 2=12:=by simp only[ED,Day.U,sumC];decide +kernel
 have t0:=tt _ r0
 have f1:e4.falls (fun _=>10)=[0]:=by
  rw[IR rfl,t0,U10,if_pos (by decide +kernel)]
 have r1:=r0.next hd hd.hex;have g0:e4.fallen (fun _=>10) (e4.top fun _=>10) 0=1:=mo (by decide) (by rw[t0,U10];decide +kernel) (by omega) (fun j hj=>by rw[show j=0 by omega,t0,U1];decide +kernel) (by rw[t0,U2];decide +kernel);generalize hF:e4.fallen (fun _=>10) (e4.top fun _=>10)=F at *;have s0:=tt _ r1
 have f2:e4.falls F=[]:=by
  rw[IR rfl,s0,g0,U1,if_neg (by decide +kernel)]
 obtain⟨h1,h2⟩:=Ra rfl f1 (by decide) hF f2;rw[h2];exact⟨s0,h1⟩
theorem QP {d:Day} (hn:d.n=2) {f1 f2 f3:Nat→Nat} {l1 l2 l3:List Nat} (h1:d.falls (fun _=>10)=l1) (hl1:l1≠[]) (hf1:d.fallen (fun _=>10) (d.top fun _=>10)=f1) (h2:d.falls f1=l2) (hl2:l2≠[]) (hf2:d.fallen f1 (d.top f1)=f2) (h3:d.falls f2=l3) (hl3:l3≠[]) (hf3:d.fallen f2 (d.top f2)=f3) (h4:d.falls f3=[]):d.frs=[l1,l2,l3]∧d.gr=d.top f3:=by
 have k1:=tl h1 hl1 19;have k2:=tl h2 hl2 18;have k3:=tl h3 hl3 17;rw[hf1] at k1;rw[hf2] at k2;rw[hf3,d.rounds_stop h4] at k3;unfold Day.frs Day.gr Day.fend;rw[hn];refine⟨?_,?_⟩
 ·rw[show 10*2=19+1 from rfl,k1.1,show 19=18+1 from rfl,k2.1,show 18=17+1 from rfl,k3.1]
 ·rw[show 10*2=19+1 from rfl,k1.2,show 19=18+1 from rfl,k2.2,show 18=17+1 from rfl,k3.2]
def e3:Day:=ab [0,0] [(0,1,1,10),(1,0,1,10),(0,-1,0,5)]
theorem Qq:e3.OK:=mw (by decide)
theorem kK:e3.cl=[⟨0,1,1,10⟩,⟨1,0,1,10⟩,⟨0,-1,0,5⟩]:=rfl
theorem SM:e3.cash 0=0∧e3.cash 1=0:=⟨rfl,rfl⟩
theorem IG {x y:Rat} (h:x=pos y):(y≤0∧x=0)∨(0≤y∧x=y):=by
 unfold pos at h
 split at h
 ·left;constructor<;>grind
 ·right;constructor<;>grind
theorem QR:e3.gr 0=0∧e3.gr 1=0∧e3.frs=[[0],[1],[0]]:=by
 have hd:=Qq;obtain⟨c0,c1⟩:=SM;have r0:=Reach.start hd;have U01:e3.U 0 1=5:=by simp only[kK,Day.U,sumC];decide +kernel
 have U02:e3.U 0 2=15:=by simp only[kK,Day.U,sumC];decide +kernel
 have U0:e3.U 0 10=15:=by simp only[kK,Day.U,sumC];decide +kernel
 have U11:e3.U 1 1=0:=by simp only[kK,Day.U,sumC];decide +kernel
 have U12:e3.U 1 2=10:=by simp only[kK,Day.U,sumC];decide +kernel
 have U1:e3.U 1 10=10:=by simp only[kK,Day.U,sumC];decide +kernel
 have S01:e3.S 0 1=10:=by simp only[kK,Day.S,sumC];decide +kernel
 have S11:e3.S 1 1=10:=by simp only[kK,Day.S,sumC];decide +kernel
 have w0:e3.w ⟨0,1,1,10⟩=1:=by simp only[Day.w,S01];decide +kernel
 have w1:e3.w ⟨1,0,1,10⟩=1:=by simp only[Day.w,S11];decide +kernel
 have t0:e3.top (fun _=>10) 0=10:=by rw[fK hd r0 0 (by decide)];simp [kK,Day.into,Day.q,sumC,c0,ahM,ahN]
 have t1:e3.top (fun _=>10) 1=10:=by rw[fK hd r0 1 (by decide)];simp [kK,Day.into,Day.q,sumC,c1,ahM,ahN]
 have f1:e3.falls (fun _=>10)=[0]:=by
  rw[o5 rfl,t0,t1,U0,U1,if_pos (by decide +kernel),if_neg (by decide +kernel)];rfl
 have r1:=r0.next hd hd.hex;have g0:e3.fallen (fun _=>10) (e3.top fun _=>10) 0=1:=mo (by decide) (by rw[t0,U0];decide +kernel) (by omega) (fun j hj=>by rw[show j=0 by omega,t0,U01];decide +kernel) (by rw[t0,U02];decide +kernel);have g1:e3.fallen (fun _=>10) (e3.top fun _=>10) 1=10:=oA (by rw[t1,U1];decide +kernel);generalize hF:e3.fallen (fun _=>10) (e3.top fun _=>10)=F at *;have s0:e3.top F 0=10:=by rw[fK hd r1 0 (by decide)];simp [kK,Day.into,Day.q,sumC,c0,g1,ahM,ahN]
 have s1:e3.top F 1=5:=by
  have hp:pos (10-5)=5:=by decide +kernel
  rw[fK hd r1 1 (by decide)];simp [kK,Day.into,Day.q,sumC,c1,g0,w0,s0,U01,hp,ahM,ahN]
  try grind
 have f2:e3.falls F=[1]:=by
  rw[o5 rfl,s0,s1,g0,g1,U01,U1,if_neg (by decide +kernel),if_pos (by decide +kernel)];rfl
 have r2:=r1.next hd hd.hex;have k0:e3.fallen F (e3.top F) 0=1:=(oA (by rw[s0,g0,U01];decide +kernel)).trans g0;have k1:e3.fallen F (e3.top F) 1=1:=mo (by decide) (by rw[s1,g1,U1];decide +kernel) (by omega) (fun j hj=>by rw[show j=0 by omega,s1,U11];decide +kernel) (by rw[s1,U12];decide +kernel);generalize hG:e3.fallen F (e3.top F)=G at *;have x0:=fK hd r2 0 (by decide);have x1:=fK hd r2 1 (by decide);simp [kK,Day.into,Day.q,sumC,c0,c1,k0,k1,w0,w1,U01,U11,ahM,ahN,Rat.one_mul] at x0 x1
 have v:e3.top G 0=0∧e3.top G 1=0:=by
  rcases IG x0 with ⟨y1,y2⟩ | ⟨y1,y2⟩<;>rcases IG x1 with ⟨z1,z2⟩ | ⟨z1,z2⟩<;>constructor<;>grind
 obtain⟨v0,v1⟩:=v
 have f3:e3.falls G=[0]:=by
  rw[o5 rfl,v0,v1,k0,k1,U01,U11,if_pos (by decide +kernel),if_neg (by decide +kernel)];rfl
 have r3:=r2.next hd hd.hex;have m0:e3.fallen G (e3.top G) 0=0:=mo (by decide) (by rw[v0,k0,U01];decide +kernel) (by omega) (fun j hj=>by omega) (by rw[v0,U01];decide +kernel);have m1:e3.fallen G (e3.top G) 1=1:=(oA (by rw[v1,k1,U11];decide +kernel)).trans k1;generalize hH:e3.fallen G (e3.top G)=H at *
 have p1:e3.top H 1=0:=by
  rw[fK hd r3 1 (by decide)];simp [kK,Day.into,Day.q,sumC,c1,m0,ahM,ahN]
 have p0:e3.top H 0=0:=by
  have hp:pos (0-0)=0:=by decide +kernel
  rw[fK hd r3 0 (by decide)];simp [kK,Day.into,Day.q,sumC,c0,m1,w1,p1,U11,hp,ahM,ahN]
 have f4:e3.falls H=[]:=by
  rw[o5 rfl,p0,p1,m0,m1,e3.U_zero,U11,if_neg (by decide +kernel)];rfl
 obtain⟨h1,h2⟩:=QP rfl f1 (by decide) hF f2 (by decide) hG f3 (by decide) hH f4;rw[h2];exact⟨p0,p1,h1⟩
def e5:Day:=ab [10,30] [(1,-1,0,25)]
def e6:Day:=ab [10,0] [(0,1,0,30)]
def e7:Day:=ab [30,0] [(0,1,0,30)]
end Go.Mini
namespace Go.Mini
open Go
set_option maxRecDepth 10000
set_option maxHeartbeats 4000000
theorem SZ:HasOK [5,0] [(0,1,0,10),(1,-1,0,4)] [5,5] [5,4] [[0]]:=by
 obtain⟨g0,g1,g2⟩:=RJ;refine⟨⟨by decide,by decide,by decide,by decide⟩,?_,?_,?_,fun n hn=>?_,fun n hn=>?_,by decide,by decide⟩
 ·show [aj (e1.gr 0),aj (e1.gr 1)]=_
  rw[g0,g1];rfl
 ·show [aj (cC _ (e1.gr 0) _),aj (cC _ (e1.gr 1) _)]=_
  rw[g0,g1,show cC [(0,1,0,10),(1,-1,0,4)] 5 (0,1,0,10)=5 by decide +kernel,show cC [(0,1,0,10),(1,-1,0,4)] 5 (1,-1,0,4)=4 by decide +kernel];rfl
 ·show e1.frs.map _=_
  rw[g2];rfl
 ·simp at hn;subst hn;exact dT (by omega) (by omega)
 ·simp at hn;rcases hn with rfl | rfl<;>exact dT (by omega) (by omega)
theorem SQ:HasOK [0,0] [(0,1,1,10),(1,0,1,10)] [10,10] [10,10] []:=by
 obtain⟨g0,g1,g2⟩:=QF;refine⟨⟨by decide,by decide,by decide,by decide⟩,?_,?_,?_,fun n hn=>?_,fun n hn=>?_,by decide,by decide⟩
 ·show [aj (e2.gr 0),aj (e2.gr 1)]=_
  rw[g0,g1];rfl
 ·show [aj (cC _ (e2.gr 0) _),aj (cC _ (e2.gr 1) _)]=_
  rw[g0,g1,show cC [(0,1,1,10),(1,0,1,10)] 10 (0,1,1,10)=10 by decide +kernel,show cC [(0,1,1,10),(1,0,1,10)] 10 (1,0,1,10)=10 by decide +kernel];rfl
 ·show e2.frs.map _=_
  rw[g2];rfl
 ·simp at hn;subst hn;exact dT (by omega) (by omega)
 ·simp at hn;subst hn;exact dT (by omega) (by omega)
theorem SX:HasOK [0,0] [(0,1,1,10),(1,0,1,10),(0,-1,0,5)] [0,0] [0,0,0] [[0],[1],[0]]:=by
 obtain⟨g0,g1,g2⟩:=QR;refine⟨⟨by decide,by decide,by decide,by decide⟩,?_,?_,?_,fun n hn=>?_,fun n hn=>?_,by decide,by decide⟩
 ·show [aj (e3.gr 0),aj (e3.gr 1)]=_
  rw[g0,g1];rfl
 ·show [aj (cC _ (e3.gr 0) _),aj (cC _ (e3.gr 1) _),aj (cC _ (e3.gr 0) _)]=_
  rw[g0,g1,show cC [(0,1,1,10),(1,0,1,10),(0,-1,0,5)] 0 (0,1,1,10)=0 by decide +kernel,show cC [(0,1,1,10),(1,0,1,10),(0,-1,0,5)] 0 (1,0,1,10)=0 by decide +kernel,show cC [(0,1,1,10),(1,0,1,10),(0,-1,0,5)] 0 (0,-1,0,5)=0 by decide +kernel];rfl
 ·show e3.frs.map _=_
  rw[g2];rfl
 ·simp at hn;subst hn;exact dT (by omega) (by omega)
 ·simp at hn;subst hn;exact dT (by omega) (by omega)
theorem SF:HasOK [9] [(0,-1,0,6),(0,-1,1,2),(0,-1,1,4)] [9] [6,1,2] [[0]]:=by
 obtain⟨g0,g2⟩:=Qk;refine⟨⟨by decide,by decide,by decide,by decide⟩,?_,?_,?_,fun n hn=>?_,fun n hn=>?_,by decide,by decide⟩
 ·show [aj (e4.gr 0)]=_
  rw[g0];rfl
 ·show [aj (cC _ (e4.gr 0) _),aj (cC _ (e4.gr 0) _),aj (cC _ (e4.gr 0) _)]=_
  rw[g0,show cC [(0,-1,0,6),(0,-1,1,2),(0,-1,1,4)] 9 (0,-1,0,6)=6 by decide +kernel,show cC [(0,-1,0,6),(0,-1,1,2),(0,-1,1,4)] 9 (0,-1,1,2)=1 by decide +kernel,show cC [(0,-1,0,6),(0,-1,1,2),(0,-1,1,4)] 9 (0,-1,1,4)=2 by decide +kernel];rfl
 ·show e4.frs.map _=_
  rw[g2];rfl
 ·simp at hn;subst hn;exact dT (by omega) (by omega)
 ·simp at hn;rcases hn with rfl | rfl | rfl<;>exact dT (by omega) (by omega)
noncomputable def uw:List Data→Option PRes:=FF (α:=Unit) (fun (_:Unit)=>([]:List Data)) (fun (_:Unit)=>some (.same (.bool true)))
theorem yN:∀ a b:Unit,(fun (_:Unit)=>([]:List Data)) a=(fun (_:Unit)=>([]:List Data)) b→a=b:=by
  intro _ _ _;rfl
@[go_sem] theorem zw :uw []=some (.same (.bool true)):=aZ yN ()
theorem Kk (T:Tab) (Jl:T gV=mkE C1) (ca:T de=mkE kX)  :
  wp T mf_law20_small.body (bG mf_law20_small.res (.same (.bool true))) ⟨az [],emp⟩:=by
 refine aq ?_;simp only[mf_law20_small];have k1:=oc _ _ _ _ _ SZ;have k2:=oc _ _ _ _ _ SQ;have k3:=oc _ _ _ _ _ SX;have k4:=oc _ _ _ _ _ SF;have k5:=jK [-1] [] ⟨by decide,by decide,fun h=>absurd h (by decide)⟩
 have k6:yc [-1] [] = .tup [.agg [.sl [],.sl [],.sl []],.int .i64 1]:=if_neg (by decide);rw[k6] at k5;simp only[ahO,List.map_nil,aa,clL,jj] at k1 k2 k3 k4 k5;have hD:toD 6 (aB emp 215019 0 [.dat (.int .i64 0),.dat (.int .i64 1),.dat (.int .i64 1),.dat (.int .i64 10),.dat (.int .i64 1),.dat (.int .i64 0),.dat (.int .i64 1),.dat (.int .i64 10)]) (.ref 215019 0 4 0 2)=some (.sl [[.int .i64 0,.int .i64 1,.int .i64 1,.int .i64 10],[.int .i64 1,.int .i64 0,.int .i64 1,.int .i64 10]]):=rfl;have hap:jR 215019 0 4 2 32 1 [.dat (.int .i64 0),.dat (.int .i64 (-1)),.dat (.int .i64 0),.dat (.int .i64 5)] (some (0,[.dat (.int .i64 0),.dat (.int .i64 1),.dat (.int .i64 1),.dat (.int .i64 10),.dat (.int .i64 1),.dat (.int .i64 0),.dat (.int .i64 1),.dat (.int .i64 10)]))=some (.ref 215019 1 4 0 3,some (215019,1,[.dat (.int .i64 0),.dat (.int .i64 1),.dat (.int .i64 1),.dat (.int .i64 10),.dat (.int .i64 1),.dat (.int .i64 0),.dat (.int .i64 1),.dat (.int .i64 10),.dat (.int .i64 0),.dat (.int .i64 (-1)),.dat (.int .i64 0),.dat (.int .i64 5)])):=dw jz qt 215019 0 32 [(0,1,1,10),(1,0,1,10)] (0,-1,0,5) rfl (by decide) (by decide);have hD2:toD 6 (aB (aB emp 215019 0 [.dat (.int .i64 0),.dat (.int .i64 1),.dat (.int .i64 1),.dat (.int .i64 10),.dat (.int .i64 1),.dat (.int .i64 0),.dat (.int .i64 1),.dat (.int .i64 10)]) 215019 1 [.dat (.int .i64 0),.dat (.int .i64 1),.dat (.int .i64 1),.dat (.int .i64 10),.dat (.int .i64 1),.dat (.int .i64 0),.dat (.int .i64 1),.dat (.int .i64 10),.dat (.int .i64 0),.dat (.int .i64 (-1)),.dat (.int .i64 0),.dat (.int .i64 5)]) (.ref 215019 1 4 0 3)=some (.sl [[.int .i64 0,.int .i64 1,.int .i64 1,.int .i64 10],[.int .i64 1,.int .i64 0,.int .i64 1,.int .i64 10],[.int .i64 0,.int .i64 (-1),.int .i64 0,.int .i64 5]]):=rfl;simp only[go_sem,go_sem_proc,ahP,Jl,ca,k1,k2,k3,k4,k5,hD,hap,hD2,kS,ahQ,scalar,beq_self_eq_true]
 repeat' (first|refine qS ?_ ?_|fail)<;>intro h<;>simp only[h,go_sem,go_sem_proc,ahP,Jl,ca,k1,k2,k3,k4,k5,hD,hap,hD2,kS,ahQ,scalar,beq_self_eq_true]

end Go.Mini
namespace Go.Mini
open Classical
section
variable {cash:List Int} {cs:List ClR} (hs:SmallD cash cs)
include hs
end
end Go.Mini
namespace Go.Mini
open Go
set_option maxRecDepth 10000
set_option maxHeartbeats 4000000
section
variable {cash:List Int} {cs:List ClR} (hs:SmallD cash cs) {i:Nat}
include hs
end






def dK (cash:List Int) (who:Nat) (n:Int):List Int:=cash.set who (IntKind.i64.wrap (cash.getD who 0+n))

section
variable {cash:List Int} {cs:List ClR} (hs:SmallD cash cs)
include hs
theorem FD {who:Nat} {n:Nat} (hn:n≤1000000000):dK cash who n=cash.set who (cash.getD who 0+n):=by
 unfold dK;have:=hs.cash who;rw[al _ (by omega) (by omega)]
theorem uA {who:Nat} {n:Nat} (hn:n≤1000000000) (hw:who<cash.length) (i:Nat):(dK cash who n).getD i 0=cash.getD i 0+if i=who then (n:Int) else 0:=by
 rw[FD hs hn,ahR,List.getElem?_set]
 by_cases h:who=i
 ·rw[if_pos h,if_pos hw,ahS,h,if_pos rfl]
 ·rw[if_neg h,if_neg (Ne.symm h),Int.add_zero,ahR]
theorem pf {who:Nat} {n:Nat} (hn:n≤1000000000) (hw:who<cash.length) (hb:∀ x∈cash,x≤1000000000000):SmallD (dK cash who n) cs:=by
 have hr:=rightD_iff.1 hs.right;have hl:(dK cash who n).length=cash.length:=by unfold dK;rw[ahT]
 refine⟨rightD_iff.2 ⟨by rw[hl];exact hr.1,hr.2.1,fun x hx=>?_,by rw[hl];exact hr.2.2.2⟩,by rw[hl];exact hs.n5,hs.c12,hs.am⟩
 obtain⟨i,hi,rfl⟩:=List.getElem_of_mem hx;have h1:=uA hs hn hw i;rw[ahR,ahU hi,ahS] at h1;have hic:i<cash.length:=by omega
 have h2:cash.getD i 0∈cash:=by rw[ahR,ahU hic];exact ahV hic
 have h3:=hb _ h2;have h4:=hs.cash i;rw[h1]
 split<;>omega
theorem AD {who:Nat} {n:Nat} (hn:n≤1000000000) (hw:who<cash.length):(ab (dK cash who n) cs).n=(ab cash cs).n∧(ab (dK cash who n) cs).cl=(ab cash cs).cl∧∀ i,(ab (dK cash who n) cs).cash i=(ab cash cs).cash i+if i=who then (n:Rat) else 0:=by
 have hl:(dK cash who n).length=cash.length:=by unfold dK;rw[ahT]
 refine⟨hl,rfl,fun i=>?_⟩
 show (((dK cash who n).getD i 0:Int):Rat)=((cash.getD i 0:Int):Rat)+_;rw[uA hs hn hw,Rat.intCast_add]
 congr 1
 split
 ·exact ahW n
 ·rfl
theorem Gi {who:Nat} {n:Nat} (hn:n≤1000000000) (hw:who<cash.length) (hb:∀ x∈cash,x≤1000000000000) {i:Nat} (hi:i<cash.length):(ab cash cs).gr i≤(ab (dK cash who n) cs).gr i:=by
 obtain⟨h1,h2,h3⟩:=AD hs hn hw
 have hk:∀ i,(ab cash cs).cash i≤(ab (dK cash who n) cs).cash i:=fun i=>by
  rw[h3];have:(0:Rat)≤(n:Rat):=ahX
  split<;>grind
 have:=Ef hs.ok (pf hs hn hw hb).ok h1 h2 (fun i _=>hk i) i hi;have:=hk i;grind
end
def fg (cs:List ClR) (m:Nat):List ClR:=cs.take m++cs.drop (m+1)
theorem Iu (l:List ClR):((l.map clL).all fun e=>e.length==4)=true:=by simp [clL]
section
variable {cash:List Int} {cs:List ClR} (hs:SmallD cash cs)
include hs
theorem GK {k n:Nat} (hn:n≤1000000000) (hk:k<cash.length) (hb:∀ x∈cash,x≤1000000000000):(ab cash cs).gr k+((n:Int):Rat)≤(ab (dK cash k n) cs).gr k:=by
 obtain⟨h1,h2,h3⟩:=AD hs hn hk
 have hk':∀ i,(ab cash cs).cash i≤(ab (dK cash k n) cs).cash i:=fun i=>by
  rw[h3];have:(0:Rat)≤(n:Rat):=ahX
  split<;>grind
 have:=Ef hs.ok (pf hs hn hk hb).ok h1 h2 (fun i _=>hk' i) k hk;rw[h3,if_pos rfl] at this;rw[ahW];grind
theorem tu (m:Nat):SmallD cash (fg cs m):=by
 have hr:=rightD_iff.1 hs.right
 have hm:∀ c∈fg cs m,c∈cs:=fun c hc=>by
  rcases List.mem_append.1 hc with h | h
  ·exact List.mem_of_mem_take h
  ·exact List.mem_of_mem_drop h
 have hl:(fg cs m).length≤cs.length:=by
  unfold fg;rw[ahY,ahZ,ah0];omega
 exact⟨rightD_iff.2 ⟨hr.1,by have:=hr.2.1;omega,hr.2.2.1,fun c hc=>hr.2.2.2 c (hm c hc)⟩,hs.n5,by have:=hs.c12;omega,fun c hc=>hs.am c (hm c hc)⟩
theorem Gr {m:Nat} {c:ClR} (hm:cs[m]?=some c) (hto:c.2.1 = -1) {i:Nat} (hi:i<cash.length):(ab cash cs).gr i≤(ab cash (fg cs m)).gr i:=by
 have hml:m<cs.length:=(List.getElem?_eq_some_iff.1 hm).1
 have hc:cs=cs.take m++c::cs.drop (m+1):=by
  have h1:=(List.take_append_drop m cs).symm;rw[List.drop_eq_getElem_cons hml,(List.getElem?_eq_some_iff.1 hm).2] at h1;exact h1
 refine Lt hs.ok (tu hs m).ok rfl rfl ((cs.take m).map bz) ((cs.drop (m+1)).map bz) (bz c) ?_ ?_ ?_ i hi
 ·show cs.map bz=_
  have h2:=congrArg (ah1 bz) hc;rw[ah2,ahO] at h2;exact h2
 ·show (fg cs m).map bz=_
  unfold fg;rw[ah2]
 ·show c.2.1<0
  omega
end
noncomputable def xu:List Data→Option PRes:=FF (α:=(List Int) × (List ClR) × Nat × Nat × Nat) (fun (cash,cs,a8,m16,w8)=>([.sl (cash.map aa),.sl (cs.map clL),.int .u8 (a8:Int),.int .u16 (m16:Int),.int .u8 (w8:Int)]:List Data)) (fun (cash,cs,a8,m16,w8)=>aI (a8<256∧m16<65536∧w8<256) (.same (.bool true)))
theorem Ax:∀ a b:(List Int) × (List ClR) × Nat × Nat × Nat,(fun (cash,cs,a8,m16,w8)=>([.sl (cash.map aa),.sl (cs.map clL),.int .u8 (a8:Int),.int .u16 (m16:Int),.int .u8 (w8:Int)]:List Data)) a=(fun (cash,cs,a8,m16,w8)=>([.sl (cash.map aa),.sl (cs.map clL),.int .u8 (a8:Int),.int .u16 (m16:Int),.int .u8 (w8:Int)]:List Data)) b→a=b:=by
  rintro⟨cash1,cs1,a81,m161,w81⟩ ⟨cash2,cs2,a82,m162,w82⟩ h;simp only[List.cons.injEq,Data.sl.injEq,Data.int.injEq,and_true,true_and] at h;exact ah3 (ah ak _ _ h.1) (ah3 (ah f7 _ _ h.2.1) (ah3 (Int.ofNat.inj h.2.2.1) (ah3 (Int.ofNat.inj h.2.2.2.1) (Int.ofNat.inj h.2.2.2.2))))
@[go_sem] theorem Cd (cash:List Int) (cs:List ClR) (a8:Nat) (m16:Nat) (w8:Nat) (hc:a8<256∧m16<65536∧w8<256):xu [.sl (cash.map aa),.sl (cs.map clL),.int .u8 (a8:Int),.int .u16 (m16:Int),.int .u8 (w8:Int)]=some (.same (.bool true)):=(aZ Ax (cash,cs,a8,m16,w8)).trans (ap hc _)
theorem Mx (T:Tab) (eO:T kO=mkE uw) (iQ:T mX=mkE CE) (ca:T de=mkE kX) (au:T aV=mkE cV) (cz:T iH=mkE nC) (bI:T dp=mkE lP) (cash:List Int) (cs:List ClR) (a8:Nat) (m16:Nat) (w8:Nat) (hc:a8<256∧m16<65536∧w8<256) :
  wp T mf_law20_ClearMore.body (bG mf_law20_ClearMore.res (.same (.bool true))) ⟨az [.dat (.sl (cash.map aa)),.dat (.sl (cs.map clL)),.dat (.int .u8 (a8:Int)),.dat (.int .u16 (m16:Int)),.dat (.int .u8 (w8:Int))],emp⟩:=by
 refine aq ?_;simp only[mf_law20_ClearMore];obtain⟨ha8,hm16,hw8⟩:=hc;have sm:=zw;have g1:=GI cash cs;rcases hf:vw cash cs
 ·rw[hf] at g1
  refine qI ?_
  repeat' (intro h<;>simp only[h,go_sem,go_sem_proc,ahP,eO,iQ,ca,au,cz,bI,sm,g1,ah4]<;>try refine qS ?_ ?_)
 rw[hf] at g1;rcases q0:((cash.length:Int)==0)
 case true =>
        refine qI ?_
        repeat' (intro h<;>simp only[h,go_sem,go_sem_proc,ahP,eO,iQ,ca,au,cz,bI,sm,g1,q0,ah5,ah6]<;>try refine qS ?_ ?_)
 have hn0:0<cash.length:=by
  have:=beq_eq_false_iff_ne.1 q0;omega
 have sv:=jK cash cs (Mn hf);unfold yc at sv;rcases hr:dh cash cs
 ·rw[if_neg (by rw[hr];decide)] at sv
  refine qI ?_
  repeat' (intro h<;>simp only[h,go_sem,go_sem_proc,ahP,eO,iQ,ca,au,cz,bI,sm,g1,q0,sv,show ((1:Int)==0)=false from rfl,ah5,bne,ah6,ah4]<;>try refine qS ?_ ?_)
 rw[if_pos hr] at sv;have hs:=wU hf hr;have hb:∀ x∈cash,x≤1000000000000:=fun x hx=>by have:=(Jb hf hr).1 x hx;omega
 have hn5:=hs.n5;have h12:=hs.c12;have wa:IntKind.i64.wrap ((a8:Nat):Int)=(a8:Int):=by rw[al _ (by omega) (by omega)]
 have ww:IntKind.i64.wrap ((w8:Nat):Int)=(w8:Int):=by rw[al _ (by omega) (by omega)]
 have wk:((a8:Nat):Int).tmod ((cash.length:Nat):Int)=((a8 % cash.length:Nat):Int):=rfl;have wl:((w8:Nat):Int).tmod ((cs.length:Nat):Int)=((w8 % cs.length:Nat):Int):=rfl;have wz:(((cash.length:Nat):Int)=0)=False:=eq_false (by omega)
 have wn:IntKind.i64.wrap (((m16:Nat):Int).tmod 1000)=((m16 % 1000:Nat):Int):=by
  rw[show ((m16:Nat):Int).tmod 1000=((m16 % 1000:Nat):Int) from rfl,al _ (by omega) (by omega)]
 have hk:a8 % cash.length<cash.length:=ah7 _ hn0;generalize a8 % cash.length=k at *;have hn:m16 % 1000<1000:=ah7 _ (by omega);generalize m16 % 1000=n at *;have hgm:=fun i=>Gi hs (n:=n) (by omega) hk hb (i:=i)
 have hmh:=GK hs (n:=n) (by omega) hk hb;have hs2:=pf hs (n:=n) (by omega) hk hb;have hgl:(dK cash k n).length=cash.length:=by unfold dK;rw[ahT]
 have sv2:=jK (dK cash k n) cs ⟨by omega,by omega,fun _=>hs2⟩
 unfold yc at sv2;rw[if_pos hs2.right] at sv2;have z1:=fun i=>ug hs (i:=i)
 have z2:=fun i (hi:i<cash.length)=>ug hs2 (i:=i) (by rw[hgl];exact hi)
 have l1:(((fE cash cs).length:Int)==(cash.length:Int))=true:=by rw[show (fE cash cs).length=cash.length from cI _ _];exact beq_self_eq_true _
 have l2:(((fE (dK cash k n) cs).length:Int)==(cash.length:Int))=true:=by rw[show (fE (dK cash k n) cs).length=(dK cash k n).length from cI _ _,hgl];exact beq_self_eq_true _
 have get1:∀ i,i<cash.length→(fE cash cs)[i]?=some (aj ((ab cash cs).gr i)):=fun i hi=>dS _ hi
 have get2:∀ i,i<cash.length→(fE (dK cash k n) cs)[i]?=some (aj ((ab (dK cash k n) cs).gr i)):=fun i hi=>dS _ (by rw[hgl];exact hi)
 have hap:jR 212054 0 1 0 8 cash.length (ay aa cash) (some (0,[]))=some (.ref 212054 1 1 0 cash.length,some (212054,1,ay aa cash)):=by
  have:=jG bq gz 212054 0 8 [] cash (by simp;omega) (by simp;omega)
  simpa [ay] using this
 have t1:ah8 1 (ah9 k (ay aa cash))=[.dat (.int .i64 (cash.getD k 0))]:=by
  rw[←HP];exact BM (f:=iC) (by rw[ahR,ahU hk];rfl)
 have t2:(ay aa cash).length=cash.length:=by rw[←HP,ah5]
 have t3:ah8 k (ay aa cash)++[MV.dat (.int .i64 (IntKind.i64.wrap (cash.getD k 0+n)))]++ah9 (k+1) (ay aa cash)=ay aa (dK cash k n):=by
  unfold dK;rw[←HP,←HP,List.map_set,List.set_eq_take_append_cons_drop,if_pos (by rw[ah5];exact hk)];simp [iC]
 have hfz:=fun (K:St→Prop) (st:St)=>cu (K:=K) (st:=st) bq 16 212054 1 (dK cash k n)
 rw[hgl] at hfz;have lk1:k+1≤cash.length:=by omega
 have hrow:(cash.map aa).flatten.map MV.dat=ay aa cash:=rfl
 obtain⟨v,hv,hvm⟩:∃ v,(dK cash k n)[k]?=some v∧decide (v>1000000000000000)=false:=by
  have h1:=uA hs (n:=n) (by omega) hk k;have hkl:k<(dK cash k n).length:=by omega
  rw[ahR,ahU hkl,ahS,if_pos rfl] at h1;have h2:cash.getD k 0∈cash:=by rw[ahR,ahU hk];exact ahV hk
  have h3:=hb _ h2;exact⟨_,ahU hkl,decide_eq_false (by omega)⟩
 have zn:szR 29 (((n:Nat):Int):Rat):=lE (by omega);have ln:cn ((n:Nat):Int):=dT (by omega) (by omega);have wo:=sa ((n:Nat):Int) ln;have ad:=yw (du (z1 k hk) (by omega)) (fM ln) (jO (z1 k hk) zn (by omega));have zs:=DR (z1 k hk) zn;have cps:=eT (du (z2 k hk) (by omega)) (du zs (by omega));have cds:decide (jp ((ab (dK cash k n) cs).gr k) ((ab cash cs).gr k+((n:Int):Rat))<0)=false:=by rw[lU];exact decide_eq_false (by grind)
 have hless:∀ (m:Nat) (c:ClR),cs[m]?=some c→c.2.1 = -1→kX [.sl (cash.map aa),.sl ((fg cs m).map clL)]=some (.same (.tup [.agg [.sl ((fE cash (fg cs m)).map ae),.sl ((oZ cash (fg cs m)).map ae),.sl ((ab cash (fg cs m)).frs.map nu)],.int .i64 0])) ∧
   (fE cash (fg cs m)).length=cash.length∧∀ i,i<cash.length→∃ y,(fE cash (fg cs m))[i]?=some (aj y)∧cV [.agg (ae (aj y)),.agg (ae (aj ((ab cash cs).gr i)))]=some (.same (.int .i64 (jp y ((ab cash cs).gr i))))∧decide (jp y ((ab cash cs).gr i)<0)=false:=by
  intro m c hm hto;have hs3:=tu hs m;have h1:=jK cash (fg cs m) ⟨by omega,by have:=hs3.c12;omega,fun _=>hs3⟩
  unfold yc at h1;rw[if_pos hs3.right] at h1;refine⟨h1,cI _ _,fun i hi=>⟨_,dS _ hi,eT (du (ug hs3 hi) (by omega)) (du (z1 i hi) (by omega)),?_⟩⟩
  have:=Gr hs hm hto hi;rw[lU];exact decide_eq_false (by grind)
 have hcm:∀ i,i<cash.length→cV [.agg (ae (aj ((ab (dK cash k n) cs).gr i))),.agg (ae (aj ((ab cash cs).gr i)))]=some (.same (.int .i64 (jp ((ab (dK cash k n) cs).gr i) ((ab cash cs).gr i))))∧decide (jp ((ab (dK cash k n) cs).gr i) ((ab cash cs).gr i)<0)=false:=fun i hi =>
  ⟨eT (du (z2 i hi) (by omega)) (du (z1 i hi) (by omega)),by rw[lU];have:=hgm i hi;exact decide_eq_false (by grind)⟩
 clear hgm hmh z1 z2 zn ln zs hs2 hb;generalize hGC:dK cash k n=GC at *;generalize oZ cash cs=PD at *;generalize oZ GC cs=PD2 at *;generalize fE cash cs=HV at *;generalize fE GC cs=HV2 at *;generalize (ab cash cs).frs=fr at *;generalize (ab GC cs).frs=fr2 at *;generalize (ab cash cs).gr=gr at *;generalize (ab GC cs).gr=gr2 at *;simp only[go_sem,go_sem_proc,ahP,eO,iQ,ca,au,cz,bI,sm,g1,q0,sv,wa,wk,wz,wn,ra,hap,hrow,t1,t2,t3,hk,lk1,hfz,sv2,hv,hvm,l1,l2,aa,List.length_cons,List.length_nil,Nat.zero_add,ah5,aia,Nat.mul_one,bne,beq_self_eq_true,ah6,ah4];refine af [0,1,4,11,12,14,15,17] [212012,212017] (fun (i:Nat) tm m=>i≤cash.length∧tm 19 = .dat (.int .i64 i)) (fun i=>cash.length-i) 0 (by refine⟨by omega,rfl⟩) ?_;intro vs ms hvs hms;simp only[go_sem,go_sem_proc,ahP,eO,iQ,ca,au,cz,bI,ah5] at hvs hms;subst hvs hms;rintro i tm m hkk hm2 ⟨hi,e19⟩;simp only[go_sem,go_sem_proc,ahP,eO,iQ,ca,au,cz,bI,List.cons.injEq] at hkk hm2;obtain⟨e0,e1,e4,e11,e12,e14,e15,e17⟩:=hkk;obtain⟨q12,q17⟩:=hm2;rcases aib (i<cash.length) with hlt | hge
 ·have d3:decide ((i:Int)<(cash.length:Int))=true:=decide_eq_true (by omega)
  have w3:IntKind.i64.wrap ((i:Int)+1)=((i+1:Nat):Int):=by rw[al _ (by omega) (by omega)];omega
  have a1:=get1 i hlt;have a2:=get2 i hlt;obtain⟨c1,c2⟩:=hcm i hlt;generalize aj (gr i)=A at *;generalize aj (gr2 i)=B at *;obtain⟨⟨b1,b2⟩,⟨b3,b4⟩⟩:=A;obtain⟨⟨y1,y2⟩,⟨y3,y4⟩⟩:=B;simp only[ae] at c1;refine qI ?_
  repeat' (intro h<;>simp only[h,go_sem,go_sem_proc,ahP,eO,iQ,ca,au,cz,bI,e0,e1,e4,e11,e12,e14,e15,e17,e19,q12,q17,a1,a2,c1,c2,d3,w3,ae,ah5,aia]<;>try refine qS ?_ ?_)
  exact⟨i+1,by omega,by omega,rfl⟩
 have d3:decide ((i:Int)<(cash.length:Int))=false:=decide_eq_false (by omega);have a1:=get1 k hk;have a2:=get2 k hk;generalize aj (gr k)=A at *;generalize aj (gr2 k)=B at *;generalize aj (((n:Nat):Int):Rat)=N at *;generalize aj (gr k+(((n:Nat):Int):Rat))=S at *;obtain⟨⟨b1,b2⟩,⟨b3,b4⟩⟩:=A;obtain⟨⟨y1,y2⟩,⟨y3,y4⟩⟩:=B;obtain⟨⟨n1,n2⟩,⟨n3,n4⟩⟩:=N;obtain⟨⟨s1,s2⟩,⟨s3,s4⟩⟩:=S;simp only[ae] at wo ad cps;rcases q3:((cs.length:Int)==0)
 case true =>
        refine qI ?_
        repeat' (intro h<;>simp only[h,go_sem,go_sem_proc,ahP,eO,iQ,ca,au,cz,bI,e0,e1,e4,e11,e12,e14,e15,e17,e19,q12,q17,a1,a2,d3,wo,ad,cps,cds,q3,ae,ah5,aia,bne,beq_self_eq_true,ah4,ah6]<;>try refine qS ?_ ?_)
 have hc0:0<cs.length:=by
  have:=beq_eq_false_iff_ne.1 q3;omega
 have wc:(((cs.length:Nat):Int)=0)=False:=eq_false (by omega);have hml:w8 % cs.length<cs.length:=ah7 _ hc0;generalize hM:w8 % cs.length=M at *;obtain⟨c,hcM⟩:∃ c,cs[M]?=some c:=⟨_,ahU hml⟩;rcases q4:(c.2.1 == -1)
 case false =>
        refine qI ?_
        repeat' (intro h<;>simp only[h,go_sem,go_sem_proc,ahP,eO,iQ,ca,au,cz,bI,e0,e1,e4,e11,e12,e14,e15,e17,e19,q12,q17,a1,a2,d3,wo,ad,cps,cds,q3,ww,wl,wc,hcM,q4,clL,ae,ah5,aia,bne,beq_self_eq_true,ah4,ah6]<;>try refine qS ?_ ?_)
 have hto:c.2.1 = -1:=eq_of_beq q4;obtain⟨h1,h2,h3⟩:=hless M c hcM hto;have wM:IntKind.i64.wrap ((M:Int)+1)=((M+1:Nat):Int):=by rw[al _ (by omega) (by omega)];omega
 have lM:M≤cs.length:=by omega
 have lM1:M+1≤cs.length:=by omega
 have htk:ah8 M (ah1 clL cs)=ah1 clL (ah8 M cs):=List.map_take.symm
 have hdk:ah9 (M+1) (ah8 cs.length (ah1 clL cs))=ah1 clL (ah9 (M+1) cs):=by
  rw[aic (by rw[ah5];exact aid _),List.map_drop]
 have lt1:(cs.take M).length=M:=by rw[ahZ];omega
 have lt2:(cs.drop (M+1)).length=cs.length-(M+1):=ah0;have hrc:∀ l:List ClR,(l.map clL).flatten.map MV.dat=ay clL l:=fun _=>rfl
 have hap1:∀ g:Nat,jR 212155 g 4 0 32 M (ay clL (cs.take M)) (some (g,[]))=some (.ref 212155 (g+1) 4 0 M,some (212155,g+1,ay clL (cs.take M))):=fun g=>by
  have:=jG jz qt 212155 g 32 [] (cs.take M) (by rw[lt1];simp;omega) (by rw[lt1];simp;omega);rw[lt1] at this
  simpa [ay] using this
 have hap2:∀ g:Nat,jR 212155 g 4 M 32 (cs.length-(M+1)) (ay clL (cs.drop (M+1))) (some (g,ay clL (cs.take M)))=some (.ref 212155 (g+1) 4 0 (M+(cs.length-(M+1))),some (212155,g+1,ay clL (fg cs M))):=fun g=>by
  have:=jG jz qt 212155 g 32 (cs.take M) (cs.drop (M+1)) (by rw[lt1,lt2];omega) (by rw[lt1,lt2];omega);rw[lt1,lt2] at this;exact this
 have hlL:(fg cs M).length=M+(cs.length-(M+1)):=by unfold fg;rw[ahY,lt1,lt2]
 have hcn:(ay clL (fg cs M)).length=(M+(cs.length-(M+1)))*4:=by rw[di jz,hlL]
 have htl:ah8 ((M+(cs.length-(M+1)))*4) (ay clL (fg cs M))=ay clL (fg cs M):=aic (by rw[hcn];exact aid _);have hmd:List.mapM nq (ay clL (fg cs M))=some ((fg cs M).map clL).flatten:=kC _ (fun _=>rfl) _
 have hck:chunk 4 (M+(cs.length-(M+1))) ((fg cs M).map clL).flatten=(fg cs M).map clL:=by
  have:=iG (sz:=4) ((fg cs M).map clL) (fun e he=>by obtain⟨a,_,rfl⟩:=List.mem_map.1 he;exact jz a);rw[ah5,hlL] at this;exact this
 simp only[go_sem,go_sem_proc,ahP,eO,iQ,ca,au,cz,bI,e0,e1,e4,e11,e12,e14,e15,e17,e19,q12,q17,a1,a2,d3,wo,ad,cps,cds,q3,ww,wl,wc,wM,lM,lM1,hcM,q4,hto,Iu,Nat.zero_le,aid,htk,hdk,lt1,lt2,hrc,hap1,hap2,hlL,hcn,htl,hmd,hck,h1,h2,List.set_cons_zero,List.set_cons_succ,clL,ae,ah5,aia,bne,beq_self_eq_true,ah4,ah6];refine af [0,11,12,23] [212012,212023] (fun (i:Nat) tm m=>i≤cash.length∧tm 25 = .dat (.int .i64 i)) (fun i=>cash.length-i) 0 (by refine⟨by omega,rfl⟩) ?_;intro vs ms hvs hms;simp only[go_sem,go_sem_proc,ahP,eO,iQ,ca,au,cz,bI,e0,e11,e12,q12,ah5] at hvs hms;subst hvs hms;rintro i2 tm2 m2 hkk hm2 ⟨hi2,e25⟩;simp only[go_sem,go_sem_proc,ahP,eO,iQ,ca,au,cz,bI,e0,e11,e12,q12,List.cons.injEq] at hkk hm2;obtain⟨e0,e11,e12,e23⟩:=hkk;obtain⟨q12,q23⟩:=hm2;rcases aib (i2<cash.length) with hlt | hge
 ·have d3:decide ((i2:Int)<(cash.length:Int))=true:=decide_eq_true (by omega)
  have w3:IntKind.i64.wrap ((i2:Int)+1)=((i2+1:Nat):Int):=by rw[al _ (by omega) (by omega)];omega
  have a1:=get1 i2 hlt;obtain⟨y,a2,c1,c2⟩:=h3 i2 hlt;generalize fE cash (fg cs M)=HV3 at *;generalize oZ cash (fg cs M)=PD3 at *;generalize (ab cash (fg cs M)).frs=fr3 at *;generalize aj (gr i2)=A at *;generalize aj y=B at *;obtain⟨⟨b1,b2⟩,⟨b3,b4⟩⟩:=A;obtain⟨⟨y1,y2⟩,⟨y3,y4⟩⟩:=B;simp only[ae] at c1;refine qI ?_
  repeat' (intro h<;>simp only[h,go_sem,go_sem_proc,ahP,eO,iQ,ca,au,cz,bI,e0,e11,e12,e23,e25,q12,q23,a1,a2,c1,c2,d3,w3,ae,ah5,aia]<;>try refine qS ?_ ?_)
  exact⟨i2+1,by omega,by omega,rfl⟩
 have d3:decide ((i2:Int)<(cash.length:Int))=false:=decide_eq_false (by omega);refine qI ?_
 repeat' (intro h<;>simp only[h,go_sem,go_sem_proc,ahP,eO,iQ,ca,au,cz,bI,e0,e11,e12,e23,e25,q12,q23,d3,ah5,ah4]<;>try refine qS ?_ ?_)
end Go.Mini
namespace Go.Mini
open Go Go.Proofs
set_option maxRecDepth 100000
theorem psF {P : Program} {T : Tab} {kb : Nat} {own : List Nat} {α : Type} {args : α → List Data} {res : α → Option PRes} (hT : j8 P T) (hm : P.follows .mixedOrders = true) {f : FuncId} {fn : Func} {mf : MFunc} (hf : P.funcs[f]? = some fn) (hname : (fn.name == "runtime.NumGoroutine") = false) (htr : jV P kb own fn = some { mf with body := erase mf.body }) (h : ∀ a r, res a = some r → (args a).length ≤ mf.n ∧ wp T mf.body (bG mf.res r) ⟨az ((args a).map .dat), emp⟩) : aT P f (FF args res) := H1 hT hm hf hname htr fun ds r hr => by
 obtain⟨a,rfl,h2⟩:=NA hr;exact h a r h2
theorem mixed:Try.prog.follows .mixedOrders=true:=by kernel_rfl
theorem oD:aT Try.prog cv mJ:=psF (mf:=mf_big_trim) (kb:=177000) (own:=[]) (aw (aD ax) (aE av)) mixed Try.func88 (by kernel_rfl) (by kernel_rfl) fun x0 r hr=>by obtain⟨hc,rfl⟩:=ao hr;exact⟨aie rfl,OT _  x0 hc⟩
theorem oI:iL Try.prog cv (mkG jS):=RSpec.toE (Bn (mf:=mf_big_trim) (kb:=177000) (own:=[]) (aw (aD ax) (aE av)) mixed Try.func88 (by kernel_rfl) (by kernel_rfl) fun args mem x h=>by
 obtain⟨a,⟨rfl,hm,hl⟩,rfl⟩:=Cn h;exact⟨aie rfl,Mj _ a.l a.k a.g mem hm hl⟩)
theorem Ji:aT Try.prog gR yu:=psF (mf:=mf_cmp_isNaN_int) (kb:=184000) (own:=[]) (aw (aD ax) (aE av)) mixed Try.func90 (by kernel_rfl) (by kernel_rfl) fun x0 r hr=>by obtain rfl:=Option.some.inj hr;exact⟨aie rfl,MH _  x0⟩
theorem D6:aT Try.prog dA yx:=psF (mf:=mf_cmp_Compare_int) (kb:=174000) (own:=[]) (aw (aD (ac Ji ax)) (aE av)) mixed Try.func68 (by kernel_rfl) (by kernel_rfl) fun⟨x0,x1⟩ r hr=>by obtain rfl:=Option.some.inj hr;exact⟨aie rfl,Oy _ (ai rfl rfl) x0 x1⟩
theorem OX:aT Try.prog lT JH:=psF (mf:=mf_cmp_Or_int) (kb:=179000) (own:=[]) (aw (aD ax) (aE av)) mixed Try.func91 (by kernel_rfl) (by kernel_rfl) fun x0 r hr=>by obtain⟨hc,rfl⟩:=ao hr;exact⟨aie rfl,Qx _  x0 hc⟩
theorem qN:aT Try.prog bO mT:=psF (mf:=mf_slices_Clone_int) (kb:=156000) (own:=[5]) (aw (aD ax) (aE av)) mixed Try.func45 (by kernel_rfl) (by kernel_rfl) fun x0 r hr=>by obtain⟨hc,rfl⟩:=ao hr;exact⟨aie rfl,Mb _  x0 hc⟩
theorem eR:aT Try.prog bb ej:=psF (mf:=mf_big_Right) (kb:=136000) (own:=[]) (aw (aD ax) (aE av)) mixed Try.func60 (by kernel_rfl) (by kernel_rfl) fun⟨x0,x1⟩ r hr=>by obtain⟨hc,rfl⟩:=ao hr;exact⟨aie rfl,Co _  x0 x1 hc⟩
theorem ku:aT Try.prog bD jE:=psF (mf:=mf_big_signed) (kb:=158000) (own:=[]) (aw (aD (ac oD ax)) (aE (eL oI av))) mixed Try.func65 (by kernel_rfl) (by kernel_rfl) fun⟨x0,x1⟩ r hr=>by obtain⟨hc,rfl⟩:=ao hr;exact⟨aie rfl,HU _ (oe rfl rfl) x0 x1 hc⟩
theorem py:aT Try.prog et mC:=psF (mf:=mf_big_compare) (kb:=175000) (own:=[]) (aw (aD (ac D6 ax)) (aE av)) mixed Try.func69 (by kernel_rfl) (by kernel_rfl) fun⟨x0,x1⟩ r hr=>by obtain⟨hc,rfl⟩:=ao hr;exact⟨aie rfl,FQ _ (ai rfl rfl) x0 x1 hc⟩
theorem JT:aT Try.prog kU D5:=psF (mf:=mf_big_add) (kb:=172000) (own:=[]) (aw (aD (ac oD ax)) (aE (eL oI av))) mixed Try.func66 (by kernel_rfl) (by kernel_rfl) fun⟨x0,x1⟩ r hr=>by obtain⟨hc,rfl⟩:=ao hr;exact⟨aie rfl,Qa _ (oe rfl rfl) x0 x1 hc⟩
theorem JF:aT Try.prog jh Ex:=psF (mf:=mf_big_sub) (kb:=173000) (own:=[10]) (aw (aD (ac qN (ac oD ax))) (aE (eL oI av))) mixed Try.func67 (by kernel_rfl) (by kernel_rfl) fun⟨x0,x1⟩ r hr=>by obtain⟨hc,rfl⟩:=ao hr;exact⟨aie rfl,RH _ (ai rfl rfl) (oe rfl rfl) x0 x1 hc⟩
theorem Ks:aT Try.prog jt Ev:=psF (mf:=mf_big_mul) (kb:=161000) (own:=[]) (aw (aD (ac oD ax)) (aE (eL oI av))) mixed Try.func72 (by kernel_rfl) (by kernel_rfl) fun⟨x0,x1⟩ r hr=>by obtain⟨hc,rfl⟩:=ao hr;exact⟨aie rfl,Q3 _ (oe rfl rfl) x0 x1 hc⟩
theorem J3:aT Try.prog kr yT:=psF (mf:=mf_big_short) (kb:=176000) (own:=[]) (aw (aD (ac oD ax)) (aE (eL oI av))) mixed Try.func87 (by kernel_rfl) (by kernel_rfl) fun⟨x0,x1⟩ r hr=>by obtain⟨hc,rfl⟩:=ao hr;exact⟨aie rfl,Mc _ (oe rfl rfl) x0 x1 hc⟩
theorem Ge:iL Try.prog lA (mkG nv):=RSpec.toE (Bn (mf:=mf_big_settle) (kb:=178000) (own:=[]) (aw (aD ax) (aE av)) mixed Try.func89 (by kernel_rfl) (by kernel_rfl) fun args mem x h=>by
 obtain⟨a,⟨rfl,hc⟩,rfl⟩:=Cn h;exact⟨aie rfl,IM _ a mem hc⟩)
theorem Kr:aT Try.prog kI Eb:=psF (mf:=mf_big_div) (kb:=157000) (own:=[54]) (aw (aD (ac py (ac qN (ac J3 (ac oD (ac Ks ax)))))) (aE (eL oI (eL Ge av)))) mixed Try.func64 (by kernel_rfl) (by kernel_rfl) fun⟨x0,x1⟩ r hr=>by obtain⟨hc,rfl⟩:=ao hr;exact⟨aie rfl,Qg _ (ai rfl rfl) (ai rfl rfl) (ai rfl rfl) (oe rfl rfl) (ai rfl rfl) (nL rfl rfl) x0 x1 hc⟩
theorem pr:aT Try.prog co mB:=psF (mf:=mf_big_checked) (kb:=155000) (own:=[]) (aw (aD ax) (aE av)) mixed Try.func71 (by kernel_rfl) (by kernel_rfl) fun⟨x0,x1,x2⟩ r hr=>by obtain rfl:=Option.some.inj hr;exact⟨aie rfl,Gt _  x0 x1 x2⟩
theorem Kt:aT Try.prog ji Ed:=psF (mf:=mf_big_Neg) (kb:=152000) (own:=[]) (aw (aD (ac eR (ac qN (ac ku ax)))) (aE av)) mixed Try.func80 (by kernel_rfl) (by kernel_rfl) fun⟨x0,x1⟩ r hr=>by obtain⟨hc,rfl⟩:=ao hr;exact⟨aie rfl,RG _ (ai rfl rfl) (ai rfl rfl) (ai rfl rfl) x0 x1 hc⟩
theorem xT:aT Try.prog dO vL:=psF (mf:=mf_big_Mul) (kb:=140000) (own:=[]) (aw (aD (ac eR (ac Ks (ac ku (ac pr ax))))) (aE av)) mixed Try.func40 (by kernel_rfl) (by kernel_rfl) fun⟨x0,x1,x2,x3⟩ r hr=>by obtain⟨hc,rfl⟩:=ao hr;exact⟨aie rfl,QM _ (ai rfl rfl) (ai rfl rfl) (ai rfl rfl) (ai rfl rfl) x0 x1 x2 x3 hc⟩
theorem OB:aT Try.prog ph JD:=psF (mf:=mf_big_Add) (kb:=160000) (own:=[]) (aw (aD (ac eR (ac OX (ac JT (ac JF (ac py (ac ku (ac pr ax)))))))) (aE av)) mixed Try.func70 (by kernel_rfl) (by kernel_rfl) fun⟨x0,x1,x2,x3⟩ r hr=>by obtain⟨hc,rfl⟩:=ao hr;exact⟨aie rfl,Q6 _ (ai rfl rfl) (ai rfl rfl) (ai rfl rfl) (ai rfl rfl) (ai rfl rfl) (ai rfl rfl) (ai rfl rfl) x0 x1 x2 x3 hc⟩
theorem Dt:aT Try.prog kP rA:=psF (mf:=mf_big_Compare) (kb:=154000) (own:=[]) (aw (aD (ac eR (ac D6 (ac py ax)))) (aE av)) mixed Try.func38 (by kernel_rfl) (by kernel_rfl) fun⟨x0,x1,x2,x3⟩ r hr=>by obtain⟨hc,rfl⟩:=ao hr;exact⟨aie rfl,Gd _ (ai rfl rfl) (ai rfl rfl) (ai rfl rfl) x0 x1 x2 x3 hc⟩
theorem Hw:aT Try.prog kN Et:=psF (mf:=mf_big_Gcd) (kb:=137000) (own:=[]) (aw (aD (ac eR (ac qN (ac Kr (ac ku (ac pr ax)))))) (aE av)) mixed Try.func61 (by kernel_rfl) (by kernel_rfl) fun⟨x0,x1,x2,x3⟩ r hr=>by obtain⟨hc,rfl⟩:=ao hr;exact⟨aie rfl,RB _ (ai rfl rfl) (ai rfl rfl) (ai rfl rfl) (ai rfl rfl) (ai rfl rfl) x0 x1 x2 x3 hc⟩
theorem It:aT Try.prog iw D8:=psF (mf:=mf_big_Div) (kb:=153000) (own:=[]) (aw (aD (ac eR (ac Kr (ac JT (ac JF (ac ku ax)))))) (aE av)) mixed Try.func37 (by kernel_rfl) (by kernel_rfl) fun⟨x0,x1,x2,x3⟩ r hr=>by obtain⟨hc,rfl⟩:=ao hr;exact⟨aie rfl,QW _ (ai rfl rfl) (ai rfl rfl) (ai rfl rfl) (ai rfl rfl) (ai rfl rfl) x0 x1 x2 x3 hc⟩
theorem Kh:aT Try.prog oy xy:=psF (mf:=mf_big_Of) (kb:=150000) (own:=[]) (aw (aD (ac ku ax)) (aE av)) mixed Try.func79 (by kernel_rfl) (by kernel_rfl) fun x0 r hr=>by obtain⟨hc,rfl⟩:=ao hr;exact⟨aie rfl,KY _ (ai rfl rfl) x0 hc⟩
theorem GS:aT Try.prog po uk:=psF (mf:=mf_big_Int) (kb:=159000) (own:=[]) (aw (aD (ac eR ax)) (aE av)) mixed Try.func86 (by kernel_rfl) (by kernel_rfl) fun⟨x0,x1⟩ r hr=>by obtain⟨hc,rfl⟩:=ao hr;exact⟨aie rfl,H5 _ (ai rfl rfl) x0 x1 hc⟩
theorem Ml:aT Try.prog nD C2:=psF (mf:=mf_frac_one) (kb:=138000) (own:=[]) (aw (aD (ac GS ax)) (aE av)) mixed Try.func62 (by kernel_rfl) (by kernel_rfl) fun⟨x0,x1⟩ r hr=>by obtain⟨hc,rfl⟩:=ao hr;exact⟨aie rfl,On _ (ai rfl rfl) x0 x1 hc⟩
theorem gT:aT Try.prog aY fQ:=psF (mf:=mf_frac_Right) (kb:=116000) (own:=[]) (aw (aD (ac eR (ac Hw (ac Ml ax)))) (aE av)) mixed Try.func33 (by kernel_rfl) (by kernel_rfl) fun⟨x0,x1,x2,x3⟩ r hr=>by obtain⟨hc,rfl⟩:=ao hr;exact⟨aie rfl,I4 _ (ai rfl rfl) (ai rfl rfl) (ai rfl rfl) x0 x1 x2 x3 hc⟩
theorem E8:aT Try.prog jH ym:=psF (mf:=mf_frac_New) (kb:=149000) (own:=[]) (aw (aD (ac eR (ac Kt (ac Hw (ac It ax))))) (aE av)) mixed Try.func73 (by kernel_rfl) (by kernel_rfl) fun⟨x0,x1,x2,x3⟩ r hr=>by obtain⟨hc,rfl⟩:=ao hr;exact⟨aie rfl,Ol _ (ai rfl rfl) (ai rfl rfl) (ai rfl rfl) (ai rfl rfl) x0 x1 x2 x3 hc⟩
theorem Dg:aT Try.prog iy zz:=psF (mf:=mf_frac_Of) (kb:=130000) (own:=[]) (aw (aD (ac Kh (ac E8 ax))) (aE av)) mixed Try.func47 (by kernel_rfl) (by kernel_rfl) fun⟨x0,x1⟩ r hr=>by obtain⟨hc,rfl⟩:=ao hr;exact⟨aie rfl,P9 _ (ai rfl rfl) (ai rfl rfl) x0 x1 hc⟩
theorem KX:aT Try.prog nG Dv:=psF (mf:=mf_frac_sum) (kb:=139000) (own:=[]) (aw (aD (ac xT (ac OB ax))) (aE av)) mixed Try.func39 (by kernel_rfl) (by kernel_rfl) fun⟨x0,x1,x2,x3,x4,x5,x6,x7⟩ r hr=>by obtain⟨hc,rfl⟩:=ao hr;exact⟨aie rfl,OP _ (ai rfl rfl) (ai rfl rfl) x0 x1 x2 x3 x4 x5 x6 x7 hc⟩
theorem uy:aT Try.prog dy pS:=psF (mf:=mf_frac_quotient) (kb:=141000) (own:=[]) (aw (aD (ac E8 ax)) (aE av)) mixed Try.func41 (by kernel_rfl) (by kernel_rfl) fun⟨x0,x1,x2,x3,x4,x5⟩ r hr=>by obtain⟨hc,rfl⟩:=ao hr;exact⟨aie rfl,Lo _ (ai rfl rfl) x0 x1 x2 x3 x4 x5 hc⟩
theorem qh:aT Try.prog dp lP:=psF (mf:=mf_frac_Add) (kb:=119000) (own:=[]) (aw (aD (ac gT (ac KX (ac xT (ac uy ax))))) (aE av)) mixed Try.func13 (by kernel_rfl) (by kernel_rfl) fun⟨x0,x1,x2,x3,x4,x5,x6,x7⟩ r hr=>by obtain⟨hc,rfl⟩:=ao hr;exact⟨aie rfl,NP _ (ai rfl rfl) (ai rfl rfl) (ai rfl rfl) (ai rfl rfl) x0 x1 x2 x3 x4 x5 x6 x7 hc⟩
theorem xh:aT Try.prog dY mI:=psF (mf:=mf_frac_Sub) (kb:=132000) (own:=[]) (aw (aD (ac gT (ac Kt (ac qh ax)))) (aE av)) mixed Try.func48 (by kernel_rfl) (by kernel_rfl) fun⟨x0,x1,x2,x3,x4,x5,x6,x7⟩ r hr=>by obtain⟨hc,rfl⟩:=ao hr;exact⟨aie rfl,NK _ (ai rfl rfl) (ai rfl rfl) (ai rfl rfl) x0 x1 x2 x3 x4 x5 x6 x7 hc⟩
theorem xI:aT Try.prog dI lS:=psF (mf:=mf_frac_Mul) (kb:=134000) (own:=[]) (aw (aD (ac gT (ac xT (ac uy ax)))) (aE av)) mixed Try.func18 (by kernel_rfl) (by kernel_rfl) fun⟨x0,x1,x2,x3,x4,x5,x6,x7⟩ r hr=>by obtain⟨hc,rfl⟩:=ao hr;exact⟨aie rfl,Oq _ (ai rfl rfl) (ai rfl rfl) (ai rfl rfl) x0 x1 x2 x3 x4 x5 x6 x7 hc⟩
theorem EW:aT Try.prog gC px:=psF (mf:=mf_frac_Div) (kb:=169000) (own:=[]) (aw (aD (ac gT (ac xT (ac uy ax)))) (aE av)) mixed Try.func85 (by kernel_rfl) (by kernel_rfl) fun⟨x0,x1,x2,x3,x4,x5,x6,x7⟩ r hr=>by obtain⟨hc,rfl⟩:=ao hr;exact⟨aie rfl,Oj _ (ai rfl rfl) (ai rfl rfl) (ai rfl rfl) x0 x1 x2 x3 x4 x5 x6 x7 hc⟩
theorem gE:aT Try.prog aV cV:=psF (mf:=mf_frac_Compare) (kb:=135000) (own:=[]) (aw (aD (ac gT (ac It (ac Dt ax)))) (aE av)) mixed Try.func12 (by kernel_rfl) (by kernel_rfl) fun⟨x0,x1,x2,x3,x4,x5,x6,x7⟩ r hr=>by obtain⟨hc,rfl⟩:=ao hr;exact⟨aie rfl,DL _ (ai rfl rfl) (ai rfl rfl) (ai rfl rfl) x0 x1 x2 x3 x4 x5 x6 x7 hc⟩
theorem vU:aT Try.prog aA qd:=psF (mf:=mf_linear_Right_1) (kb:=125000) (own:=[]) (aw (aD (ac gT ax)) (aE av)) mixed Try.func111 (by kernel_rfl) (by kernel_rfl) fun⟨x0,x1,x2,x3⟩ r hr=>by obtain⟨hc,rfl⟩:=ao hr;exact⟨aie rfl,J7 _ (ai rfl rfl) x0 x1 x2 x3 hc⟩
theorem Fy:aT Try.prog bp tn:=psF (mf:=mf_clear_Fits_1) (kb:=234000) (own:=[]) (aw (aD (ac gT ax)) (aE av)) mixed Try.func32 (by kernel_rfl) (by kernel_rfl) fun⟨x0,x1,x2,x3⟩ r hr=>by obtain⟨hc,rfl⟩:=ao hr;exact⟨aie rfl,IV _ (ai rfl rfl) x0 x1 x2 x3 hc⟩
theorem GP:aT Try.prog fe uU:=psF (mf:=mf_slices_IndexFunc_Frac) (kb:=146000) (own:=[]) (aw (aD (ac vU (ac Fy ax))) (aE av)) mixed Try.func63 (by kernel_rfl) (by kernel_rfl) fun⟨x0,x1⟩ r hr=>by obtain⟨hc,rfl⟩:=ao hr;exact⟨aie rfl,Ie _ (ai rfl rfl) (ai rfl rfl) x0 x1 hc⟩
theorem tT:aT Try.prog cy oF:=psF (mf:=mf_slices_ContainsFunc_Frac) (kb:=128000) (own:=[]) (aw (aD (ac GP ax)) (aE av)) mixed Try.func34 (by kernel_rfl) (by kernel_rfl) fun⟨x0,x1⟩ r hr=>by obtain⟨hc,rfl⟩:=ao hr;exact⟨aie rfl,Fa _ (ai rfl rfl) x0 x1 hc⟩
theorem Ad:aT Try.prog bA pA:=psF (mf:=mf_linear_Right_2) (kb:=127000) (own:=[]) (aw (aD (ac vU (ac tT ax))) (aE av)) mixed Try.func113 (by kernel_rfl) (by kernel_rfl) fun⟨x0,x1,x2,x3,x4,x5⟩ r hr=>by obtain⟨hc,rfl⟩:=ao hr;exact⟨aie rfl,B5 _ (ai rfl rfl) (ai rfl rfl) x0 x1 x2 x3 x4 x5 hc⟩
theorem I1:aT Try.prog fC xD:=psF (mf:=mf_slices_IndexFunc_Row) (kb:=145000) (own:=[]) (aw (aD (ac Ad ax)) (aE av)) mixed Try.func116 (by kernel_rfl) (by kernel_rfl) fun⟨x0,x1⟩ r hr=>by obtain⟨hc,rfl⟩:=ao hr;exact⟨aie rfl,KT _ (ai rfl rfl) x0 x1 hc⟩
theorem FY:aT Try.prog eA uY:=psF (mf:=mf_slices_ContainsFunc_Row) (kb:=126000) (own:=[]) (aw (aD (ac I1 ax)) (aE av)) mixed Try.func112 (by kernel_rfl) (by kernel_rfl) fun⟨x0,x1⟩ r hr=>by obtain⟨hc,rfl⟩:=ao hr;exact⟨aie rfl,J1 _ (ai rfl rfl) x0 x1 hc⟩
theorem A0:aT Try.prog jY pG:=psF (mf:=mf_linear_Right) (kb:=108000) (own:=[]) (aw (aD (ac FY ax)) (aE av)) mixed Try.func104 (by kernel_rfl) (by kernel_rfl) fun⟨x0,x1⟩ r hr=>by obtain⟨hc,rfl⟩:=ao hr;exact⟨aie rfl,DD _ (ai rfl rfl) x0 x1 hc⟩
theorem MB:iL Try.prog bV (mkU mN):=FO (mf:=mf_linear_matrix_note) (kb:=168000) (own:=[]) (aw (aD ax) (aE av)) mixed Try.func118 (by kernel_rfl) (by kernel_rfl) EZ fun args mem r k g i d h=>by
 obtain⟨h1,h2,h3,h4,h5⟩:=Oh _ args mem r k g i d h;exact⟨h1,h2,h3,h4,h5⟩
theorem Mh:aT Try.prog gh xS:=psF (mf:=mf_linear_zero) (kb:=167000) (own:=[]) (aw (aD ax) (aE av)) mixed Try.func117 (by kernel_rfl) (by kernel_rfl) fun⟨x0,x1,x2,x3⟩ r hr=>by obtain rfl:=Option.some.inj hr;exact⟨aie rfl,w_zero _  x0 x1 x2 x3⟩
theorem H3:iL Try.prog fN (mkQ qM):=rX (mf:=mf_linear_matrix_pivot) (kb:=148000) (own:=[3000106,3000165,3000169]) (aw (aD (ac Mh (ac EW (ac xh (ac xI ax))))) (aE (eL MB av))) mixed Try.func115 (by kernel_rfl) (by kernel_rfl) fun args mem R h=>by
 obtain⟨a,rfl,⟨h1,h2,h3,h4,h5,h6,h7⟩,rfl⟩:=zX h;exact⟨aie rfl,MJ _ (ai rfl rfl) (nL rfl rfl) (ai rfl rfl) (ai rfl rfl) (ai rfl rfl) a.go a.N a.rows a.r a.c mem h1 h2 h3 h4 h5 h6 h7⟩
theorem FP:aT Try.prog eP qZ:=psF (mf:=mf_slices_Clone_Frac) (kb:=147000) (own:=[5]) (aw (aD ax) (aE av)) mixed Try.func114 (by kernel_rfl) (by kernel_rfl) fun x0 r hr=>by obtain⟨hc,rfl⟩:=ao hr;exact⟨aie rfl,H4 _  x0 hc⟩
theorem Lm:aT Try.prog gD yG:=psF (mf:=mf_linear_eliminated) (kb:=129000) (own:=[29,34]) (aw (aD (ac FP ax)) (aE (eL H3 av))) mixed Try.func105 (by kernel_rfl) (by kernel_rfl) fun⟨x0,x1,x2⟩ r hr=>by obtain⟨hc,rfl⟩:=ao hr;exact⟨aie rfl,ND _ (ai rfl rfl) (nL rfl rfl) x0 x1 x2 hc⟩
theorem Ab:aT Try.prog jW pI:=psF (mf:=mf_linear_Solve) (kb:=109000) (own:=[]) (aw (aD (ac A0 (ac Lm ax))) (aE av)) mixed Try.func98 (by kernel_rfl) (by kernel_rfl) fun⟨x0,x1⟩ r hr=>by obtain⟨hc,rfl⟩:=ao hr;exact⟨aie rfl,Dq _ (ai rfl rfl) (ai rfl rfl) x0 x1 hc⟩
theorem HA:aT Try.prog iq yB:=psF (mf:=mf_math_bits_Mul64) (kb:=171000) (own:=[]) (aw (aD ax) (aE av)) mixed Try.func110 (by kernel_rfl) (by kernel_rfl) fun x0 r hr=>by obtain⟨hc,rfl⟩:=ao hr;exact⟨aie rfl,LH _  x0 hc⟩
theorem Ll:aT Try.prog jo Ca:=psF (mf:=mf_math_bits_Mul) (kb:=151000) (own:=[]) (aw (aD (ac HA ax)) (aE av)) mixed Try.func103 (by kernel_rfl) (by kernel_rfl) fun x0 r hr=>by obtain⟨hc,rfl⟩:=ao hr;exact⟨aie rfl,OS _ (ai rfl rfl) x0 hc⟩
theorem Cp:aT Try.prog fX rh:=psF (mf:=mf_slices_Repeat_Frac) (kb:=131000) (own:=[]) (aw (aD (ac Ll ax)) (aE av)) mixed Try.func97 (by kernel_rfl) (by kernel_rfl) fun⟨x0,x1,x2,x3,x4⟩ r hr=>by obtain⟨hc,rfl⟩:=ao hr;exact⟨aie rfl,FV _ (ai rfl rfl) x0 x1 x2 x3 x4 hc⟩
theorem nz:aT Try.prog ct ls:=psF (mf:=mf_ref04_trim) (kb:=183000) (own:=[18]) (aw (aD ax) (aE av)) mixed Try.func102 (by kernel_rfl) (by kernel_rfl) fun x0 r hr=>by obtain⟨hc,rfl⟩:=ao hr;exact⟨aie rfl,LV _  x0 hc⟩
theorem ov:aT Try.prog bZ lV:=psF (mf:=mf_ref04_digit) (kb:=187000) (own:=[]) (aw (aD ax) (aE av)) mixed Try.func108 (by kernel_rfl) (by kernel_rfl) fun⟨x0,x1⟩ r hr=>by obtain⟨hc,rfl⟩:=ao hr;exact⟨aie rfl,Ir _  x0 x1 hc⟩
theorem Ij:aT Try.prog jx sR:=psF (mf:=mf_ref04_less) (kb:=185000) (own:=[]) (aw (aD (ac ov ax)) (aE av)) mixed Try.func106 (by kernel_rfl) (by kernel_rfl) fun⟨x0,x1⟩ r hr=>by obtain⟨hc,rfl⟩:=ao hr;exact⟨aie rfl,K5 _ (ai rfl rfl) x0 x1 hc⟩
theorem J8:aT Try.prog lR ye:=psF (mf:=mf_ref04_plus) (kb:=181000) (own:=[]) (aw (aD (ac ov (ac nz ax))) (aE av)) mixed Try.func100 (by kernel_rfl) (by kernel_rfl) fun⟨x0,x1⟩ r hr=>by obtain⟨hc,rfl⟩:=ao hr;exact⟨aie rfl,Lf _ (ai rfl rfl) (ai rfl rfl) x0 x1 hc⟩
theorem wZ:aT Try.prog gu rf:=psF (mf:=mf_ref04_minus) (kb:=182000) (own:=[]) (aw (aD (ac ov (ac nz ax))) (aE av)) mixed Try.func101 (by kernel_rfl) (by kernel_rfl) fun⟨x0,x1⟩ r hr=>by obtain⟨hc,rfl⟩:=ao hr;exact⟨aie rfl,KB _ (ai rfl rfl) (ai rfl rfl) x0 x1 hc⟩
theorem FL:aT Try.prog gH pV:=psF (mf:=mf_ref04_times) (kb:=186000) (own:=[]) (aw (aD (ac ov (ac nz ax))) (aE av)) mixed Try.func107 (by kernel_rfl) (by kernel_rfl) fun⟨x0,x1⟩ r hr=>by obtain⟨hc,rfl⟩:=ao hr;exact⟨aie rfl,KA _ (ai rfl rfl) (ai rfl rfl) x0 x1 hc⟩
theorem AG:aT Try.prog ig sS:=psF (mf:=mf_ref04_over) (kb:=180000) (own:=[26]) (aw (aD (ac nz (ac FL (ac Ij (ac wZ ax))))) (aE av)) mixed Try.func99 (by kernel_rfl) (by kernel_rfl) fun⟨x0,x1⟩ r hr=>by obtain⟨hc,rfl⟩:=ao hr;exact⟨aie rfl,Lj _ (ai rfl rfl) (ai rfl rfl) (ai rfl rfl) (ai rfl rfl) x0 x1 hc⟩
theorem pZ:aT Try.prog cE oq:=psF (mf:=mf_ref04_made) (kb:=166000) (own:=[]) (aw (aD (ac nz ax)) (aE av)) mixed Try.func96 (by kernel_rfl) (by kernel_rfl) fun⟨x0,x1⟩ r hr=>by obtain⟨hc,rfl⟩:=ao hr;exact⟨aie rfl,MM _ (ai rfl rfl) x0 x1 hc⟩
theorem oz:aT Try.prog cq mD:=psF (mf:=mf_ref04_Right) (kb:=162000) (own:=[]) (aw (aD ax) (aE av)) mixed Try.func92 (by kernel_rfl) (by kernel_rfl) fun⟨x0,x1⟩ r hr=>by obtain⟨hc,rfl⟩:=ao hr;exact⟨aie rfl,II _  x0 x1 hc⟩
theorem KR:aT Try.prog kh CL:=psF (mf:=mf_ref04_Neg) (kb:=163000) (own:=[]) (aw (aD (ac oz (ac pZ ax))) (aE av)) mixed Try.func93 (by kernel_rfl) (by kernel_rfl) fun⟨x0,x1⟩ r hr=>by obtain⟨hc,rfl⟩:=ao hr;exact⟨aie rfl,O7 _ (ai rfl rfl) (ai rfl rfl) x0 x1 hc⟩
theorem NV:aT Try.prog lh Hu:=psF (mf:=mf_ref04_Of) (kb:=144000) (own:=[]) (aw (aD (ac pZ ax)) (aE av)) mixed Try.func75 (by kernel_rfl) (by kernel_rfl) fun x0 r hr=>by obtain⟨hc,rfl⟩:=ao hr;exact⟨aie rfl,Qh _ (ai rfl rfl) x0 hc⟩
theorem Lx:aT Try.prog mS C5:=psF (mf:=mf_ref04_Gcd) (kb:=164000) (own:=[]) (aw (aD (ac oz (ac AG (ac pZ ax)))) (aE av)) mixed Try.func94 (by kernel_rfl) (by kernel_rfl) fun⟨x0,x1,x2,x3⟩ r hr=>by obtain⟨hc,rfl⟩:=ao hr;exact⟨aie rfl,NX _ (ai rfl rfl) (ai rfl rfl) (ai rfl rfl) x0 x1 x2 x3 hc⟩
theorem MS:aT Try.prog kg DH:=psF (mf:=mf_ref04_Div) (kb:=165000) (own:=[]) (aw (aD (ac oz (ac AG (ac J8 (ac wZ (ac pZ ax)))))) (aE av)) mixed Try.func95 (by kernel_rfl) (by kernel_rfl) fun⟨x0,x1,x2,x3⟩ r hr=>by obtain⟨hc,rfl⟩:=ao hr;exact⟨aie rfl,Oc _ (ai rfl rfl) (ai rfl rfl) (ai rfl rfl) (ai rfl rfl) (ai rfl rfl) x0 x1 x2 x3 hc⟩
theorem Ma:aT Try.prog nf CX:=psF (mf:=mf_ref05_New) (kb:=143000) (own:=[]) (aw (aD (ac oz (ac KR (ac Lx (ac MS ax))))) (aE av)) mixed Try.func74 (by kernel_rfl) (by kernel_rfl) fun⟨x0,x1,x2,x3⟩ r hr=>by obtain⟨hc,rfl⟩:=ao hr;exact⟨aie rfl,Og _ (ai rfl rfl) (ai rfl rfl) (ai rfl rfl) (ai rfl rfl) x0 x1 x2 x3 hc⟩
theorem NC:aT Try.prog nO IE:=psF (mf:=mf_ref05_Of) (kb:=124000) (own:=[]) (aw (aD (ac NV (ac Ma ax))) (aE av)) mixed Try.func42 (by kernel_rfl) (by kernel_rfl) fun⟨x0,x1⟩ r hr=>by obtain⟨hc,rfl⟩:=ao hr;exact⟨aie rfl,Qi _ (ai rfl rfl) (ai rfl rfl) x0 x1 hc⟩
theorem jw:aT Try.prog bf fk:=psF (mf:=mf_clear_whole) (kb:=230000) (own:=[]) (aw (aD (ac Dg ax)) (aE av)) mixed Try.func28 (by kernel_rfl) (by kernel_rfl) fun x0 r hr=>by obtain⟨hc,rfl⟩:=ao hr;exact⟨aie rfl,HF _ (ai rfl rfl) x0 hc⟩
theorem Hi:aT Try.prog c9 n7:=psF (mf:=mf_rank_whole) (kb:=241000) (own:=[]) (aw (aD (ac Dg ax)) (aE av)) mixed Try.func51 (by kernel_rfl) (by kernel_rfl) fun x0 r hr=>by obtain⟨hc,rfl⟩:=ao hr;exact⟨aie rfl,Ib _ (ai rfl rfl) x0 hc⟩
theorem wD:aT Try.prog iH nC:=psF (mf:=mf_law20_of) (kb:=219000) (own:=[]) (aw (aD (ac NC ax)) (aE av)) mixed Try.func14 (by kernel_rfl) (by kernel_rfl) fun x0 r hr=>by obtain⟨hc,rfl⟩:=ao hr;exact⟨aie rfl,Iw _ (ai rfl rfl) x0 hc⟩
theorem L1:aT Try.prog mX CE:=psF (mf:=mf_ref20_Few) (kb:=216000) (own:=[]) (aw (aD ax) (aE av)) mixed Try.func8 (by kernel_rfl) (by kernel_rfl) fun⟨x0,x1⟩ r hr=>by obtain rfl:=Option.some.inj hr;exact⟨aie rfl,Nz _  x0 x1⟩
theorem Ii:aT Try.prog bn DZ:=psF (mf:=mf_clear_right_1) (kb:=243000) (own:=[]) (aw (aD ax) (aE av)) mixed Try.func53 (by kernel_rfl) (by kernel_rfl) fun⟨x0,x1,x2⟩ r hr=>by obtain rfl:=Option.some.inj hr;exact⟨aie rfl,Qp _  x0 x1 x2⟩
theorem O9:aT Try.prog fy JG:=psF (mf:=mf_clear_right_2) (kb:=244000) (own:=[]) (aw (aD (ac Ii ax)) (aE av)) mixed Try.func54 (by kernel_rfl) (by kernel_rfl) fun x0 r hr=>by obtain rfl:=Option.some.inj hr;exact⟨aie rfl,Qz _ (ai rfl rfl) x0⟩
theorem O6:aT Try.prog fi JQ:=psF (mf:=mf_clear_right_3) (kb:=245000) (own:=[]) (aw (aD (ac Ii ax)) (aE av)) mixed Try.func55 (by kernel_rfl) (by kernel_rfl) fun⟨x0,x1,x2,x3,x4⟩ r hr=>by obtain⟨hc,rfl⟩:=ao hr;exact⟨aie rfl,P8 _ (ai rfl rfl) x0 x1 x2 x3 x4 hc⟩
theorem Cg:aT Try.prog fo rQ:=psF (mf:=mf_clear_Solve_1) (kb:=232000) (own:=[]) (aw (aD (ac jw (ac gE ax))) (aE av)) mixed Try.func30 (by kernel_rfl) (by kernel_rfl) fun⟨x0,x1,x2⟩ r hr=>by obtain⟨hc,rfl⟩:=ao hr;exact⟨aie rfl,Fp _ (ai rfl rfl) (ai rfl rfl) x0 x1 x2 hc⟩
theorem tf:aT Try.prog fD oo:=psF (mf:=mf_rescue_amount) (kb:=251000) (own:=[]) (aw (aD ax) (aE av)) mixed Try.func77 (by kernel_rfl) (by kernel_rfl) fun x0 r hr=>by obtain rfl:=Option.some.inj hr;exact⟨aie rfl,Fq _  x0⟩
theorem Ju:aT Try.prog il yq:=psF (mf:=mf_rescue_day_1) (kb:=250000) (own:=[]) (aw (aD (ac tf ax)) (aE av)) mixed Try.func76 (by kernel_rfl) (by kernel_rfl) fun x0 r hr=>by obtain rfl:=Option.some.inj hr;exact⟨aie rfl,LN _ (ai rfl rfl) x0⟩
theorem BG:aT Try.prog bX od:=psF (mf:=mf_slices_IndexFunc_int) (kb:=231000) (own:=[]) (aw (aD (ac O9 (ac Ju (ac Cg ax)))) (aE av)) mixed Try.func29 (by kernel_rfl) (by kernel_rfl) fun⟨x0,x1⟩ r hr=>by obtain⟨hc,rfl⟩:=ao hr;exact⟨aie rfl,LI _ (ai rfl rfl) (ai rfl rfl) (ai rfl rfl) x0 x1 hc⟩
theorem GU:aT Try.prog ew s9:=psF (mf:=mf_slices_ContainsFunc_int) (kb:=246000) (own:=[]) (aw (aD (ac BG ax)) (aE av)) mixed Try.func56 (by kernel_rfl) (by kernel_rfl) fun⟨x0,x1⟩ r hr=>by obtain⟨hc,rfl⟩:=ao hr;exact⟨aie rfl,JC _ (ai rfl rfl) x0 x1 hc⟩
theorem DB:aT Try.prog fx rM:=psF (mf:=mf_rank_within) (kb:=253000) (own:=[]) (aw (aD ax) (aE av)) mixed Try.func81 (by kernel_rfl) (by kernel_rfl) fun⟨x0,x1,x2⟩ r hr=>by obtain rfl:=Option.some.inj hr;exact⟨aie rfl,FZ _  x0 x1 x2⟩
theorem GY:aT Try.prog lw uO:=psF (mf:=mf_rank_right) (kb:=240000) (own:=[]) (aw (aD (ac DB ax)) (aE av)) mixed Try.func50 (by kernel_rfl) (by kernel_rfl) fun x0 r hr=>by obtain⟨hc,rfl⟩:=ao hr;exact⟨aie rfl,Id _ (ai rfl rfl) x0 hc⟩
theorem Fc:aT Try.prog lK tB:=psF (mf:=mf_rank_Split) (kb:=249000) (own:=[]) (aw (aD (ac gT (ac gE (ac Hi (ac GY (ac xI (ac EW (ac xh ax)))))))) (aE av)) mixed Try.func59 (by kernel_rfl) (by kernel_rfl) fun⟨x0,x1⟩ r hr=>by obtain⟨hc,rfl⟩:=ao hr;exact⟨aie rfl,Kp _ (ai rfl rfl) (ai rfl rfl) (ai rfl rfl) (ai rfl rfl) (ai rfl rfl) (ai rfl rfl) (ai rfl rfl) x0 x1 hc⟩
theorem IY:aT Try.prog ij xU:=psF (mf:=mf_rescue_day_2) (kb:=252000) (own:=[]) (aw (aD (ac tf ax)) (aE av)) mixed Try.func78 (by kernel_rfl) (by kernel_rfl) fun⟨x0,x1,x2,x3,x4⟩ r hr=>by obtain⟨hc,rfl⟩:=ao hr;exact⟨aie rfl,MD _ (ai rfl rfl) x0 x1 x2 x3 x4 hc⟩
theorem Du:aT Try.prog eG rF:=psF (mf:=mf_slices_IndexFunc_Claim) (kb:=254000) (own:=[]) (aw (aD (ac O6 (ac IY ax))) (aE av)) mixed Try.func82 (by kernel_rfl) (by kernel_rfl) fun⟨x0,x1⟩ r hr=>by obtain⟨hc,rfl⟩:=ao hr;exact⟨aie rfl,Fm _ (ai rfl rfl) (ai rfl rfl) x0 x1 hc⟩
theorem zg:aT Try.prog dQ o8:=psF (mf:=mf_slices_ContainsFunc_Claim) (kb:=247000) (own:=[]) (aw (aD (ac Du ax)) (aE av)) mixed Try.func57 (by kernel_rfl) (by kernel_rfl) fun⟨x0,x1⟩ r hr=>by obtain⟨hc,rfl⟩:=ao hr;exact⟨aie rfl,CG _ (ai rfl rfl) x0 x1 hc⟩
theorem wj:aT Try.prog gm pP:=psF (mf:=mf_clear_right) (kb:=227000) (own:=[]) (aw (aD (ac GU (ac zg ax))) (aE av)) mixed Try.func25 (by kernel_rfl) (by kernel_rfl) fun⟨x0,x1⟩ r hr=>by obtain⟨hc,rfl⟩:=ao hr;exact⟨aie rfl,HM _ (ai rfl rfl) (ai rfl rfl) x0 x1 hc⟩
theorem BH:aT Try.prog eQ rg:=psF (mf:=mf_clear_payments) (kb:=233000) (own:=[]) (aw (aD (ac Fc ax)) (aE av)) mixed Try.func31 (by kernel_rfl) (by kernel_rfl) fun⟨x0,x1⟩ r hr=>by obtain⟨hc,rfl⟩:=ao hr;exact⟨aie rfl,MW _ (ai rfl rfl) x0 x1 hc⟩
theorem Dp:iL Try.prog dW (mkN oC):=pj (mf:=mf_clear_debtor_shares) (kb:=255000) (own:=[17]) (aw (aD (ac jw (ac Cp (ac Dg (ac qh ax))))) (aE av)) mixed Try.func83 (by kernel_rfl) (by kernel_rfl) (fun j=>j / 1000=255) fun args mem d h=>by
 obtain⟨a,⟨rfl,ha⟩,rfl⟩:=B6 h;exact⟨aie rfl,ha.no,F9 _ (ai rfl rfl) (ai rfl rfl) (ai rfl rfl) (ai rfl rfl) a.1 a.2 mem ha⟩
theorem Fb:iL Try.prog kM (mkN p6):=pj (mf:=mf_clear_solve) (kb:=256000) (own:=[]) (aw (aD (ac jw (ac xh (ac Ab ax)))) (aE av)) mixed Try.func84 (by kernel_rfl) (by kernel_rfl) (fun j=>j / 1000=256) fun args mem d h=>by
 obtain⟨a,⟨rfl,ha⟩,rfl⟩:=B6 h;exact⟨aie rfl,ha.no,HL _ (ai rfl rfl) (ai rfl rfl) (ai rfl rfl) a mem ha⟩
theorem I3:iL Try.prog lL (mkN yl):=pj (mf:=mf_clear_list) (kb:=248000) (own:=[]) (aw (aD (ac jw (ac xI (ac qh ax)))) (aE (eL Dp (eL Fb av)))) mixed Try.func58 (by kernel_rfl) (by kernel_rfl) (fun j=>j / 1000=248) fun args mem d h=>by
 obtain⟨a,⟨rfl,ha⟩,rfl⟩:=B6 h;exact⟨aie rfl,ha.n1,LZ _ (ai rfl rfl) (nL rfl rfl) (nL rfl rfl) (ai rfl rfl) (ai rfl rfl) a mem ha⟩
theorem GT:iL Try.prog iV (mkQ nR):=rX (mf:=mf_clear_round) (kb:=229000) (own:=[]) (aw (aD (ac jw (ac gE ax))) (aE (eL I3 av))) mixed Try.func27 (by kernel_rfl) (by kernel_rfl) fun args mem R h=>by
 obtain⟨a,⟨rfl,ha⟩,rfl⟩:=CW h;exact⟨aie rfl,Ic _ (nL rfl rfl) (ai rfl rfl) (ai rfl rfl) a mem ha⟩
theorem Ht:iL Try.prog lC (mkQ yv):=rX (mf:=mf_clear_open) (kb:=228000) (own:=[22]) (aw (aD ax) (aE av)) mixed Try.func26 (by kernel_rfl) (by kernel_rfl) fun args mem R h=>by
 obtain⟨a,⟨rfl,ha⟩,rfl⟩:=CW h;exact⟨aie rfl,Lp _  a.1 a.2 mem ha⟩
theorem rz:aT Try.prog de kX:=psF (mf:=mf_clear_Solve) (kb:=217000) (own:=[]) (aw (aD (ac wj (ac jw (ac gE (ac BG (ac BH ax)))))) (aE (eL Ht (eL GT av)))) mixed Try.func10 (by kernel_rfl) (by kernel_rfl) fun⟨x0,x1⟩ r hr=>by obtain⟨hc,rfl⟩:=ao hr;exact⟨aie rfl,J9 _ (ai rfl rfl) (nL rfl rfl) (nL rfl rfl) (ai rfl rfl) (ai rfl rfl) (ai rfl rfl) (ai rfl rfl) x0 x1 hc⟩
theorem Jt:aT Try.prog dt yJ:=psF (mf:=mf_clear_Fits_2) (kb:=236000) (own:=[]) (aw (aD (ac gE ax)) (aE av)) mixed Try.func36 (by kernel_rfl) (by kernel_rfl) fun⟨x0,x1,x2,x3,x4,x5,x6,x7⟩ r hr=>by obtain⟨hc,rfl⟩:=ao hr;exact⟨aie rfl,ML _ (ai rfl rfl) x0 x1 x2 x3 x4 x5 x6 x7 hc⟩
theorem Gf:aT Try.prog fa tJ:=psF (mf:=mf_slices_EqualFunc_Frac) (kb:=235000) (own:=[]) (aw (aD (ac Jt ax)) (aE av)) mixed Try.func35 (by kernel_rfl) (by kernel_rfl) fun⟨x0,x1⟩ r hr=>by obtain⟨hc,rfl⟩:=ao hr;exact⟨aie rfl,Im _ (ai rfl rfl) x0 x1 hc⟩
theorem Hv:aT Try.prog lH sM:=psF (mf:=mf_clear_Fits) (kb:=218000) (own:=[]) (aw (aD (ac wj (ac tT (ac BH (ac jw (ac qh (ac Gf ax))))))) (aE av)) mixed Try.func11 (by kernel_rfl) (by kernel_rfl) fun⟨x0,x1,x2⟩ r hr=>by obtain⟨hc,rfl⟩:=ao hr;exact⟨aie rfl,Md _ (ai rfl rfl) (ai rfl rfl) (ai rfl rfl) (ai rfl rfl) (ai rfl rfl) (ai rfl rfl) x0 x1 x2 hc⟩
theorem tD:aT Try.prog gW lB:=psF (mf:=mf_ref20_SameRounds) (kb:=242000) (own:=[]) (aw (aD ax) (aE av)) mixed Try.func52 (by kernel_rfl) (by kernel_rfl) fun⟨x0,x1⟩ r hr=>by obtain⟨hc,rfl⟩:=ao hr;exact⟨aie rfl,vk _  x0 x1 hc⟩
theorem KV:aT Try.prog gV C1:=psF (mf:=mf_law20_has) (kb:=226000) (own:=[]) (aw (aD (ac rz (ac tD (ac wD (ac gE (ac gT (ac Hv ax))))))) (aE av)) mixed Try.func23 (by kernel_rfl) (by kernel_rfl) fun⟨x0,x1,x2,x3,x4⟩ r hr=>by obtain⟨hc,rfl⟩:=ao hr;exact⟨aie rfl,NI _ (ai rfl rfl) (ai rfl rfl) (ai rfl rfl) (ai rfl rfl) (ai rfl rfl) (ai rfl rfl) x0 x1 x2 x3 x4 hc⟩
theorem G7:aT Try.prog kO uw:=psF (mf:=mf_law20_small) (kb:=215000) (own:=[19]) (aw (aD (ac KV (ac rz ax))) (aE av)) mixed Try.func7 (by kernel_rfl) (by kernel_rfl) fun _ r hr=>by obtain rfl:=Option.some.inj hr;exact⟨aie rfl,Kk _ (ai rfl rfl) (ai rfl rfl) ⟩
theorem HN:aT Try.prog pz xu:=psF (mf:=mf_law20_ClearMore) (kb:=212000) (own:=[54,155,2000000165]) (aw (aD (ac G7 (ac L1 (ac rz (ac gE (ac wD (ac qh ax))))))) (aE av)) mixed Try.func4 (by kernel_rfl) (by kernel_rfl) fun⟨x0,x1,x2,x3,x4⟩ r hr=>by obtain⟨hc,rfl⟩:=ao hr;exact⟨aie rfl,Mx _ (ai rfl rfl) (ai rfl rfl) (ai rfl rfl) (ai rfl rfl) (ai rfl rfl) (ai rfl rfl) x0 x1 x2 x3 x4 hc⟩
end Go.Mini
