/- A part of the proof. -/
import Derived.Test.YtdbkjjoedjfmpaaM11
import Derived.Test.YtdbkjjoedjfmpaaM14
import Derived.Test.YtdbkjjoedjfmpaaProg
import Derived.KernelRfl
set_option linter.unusedSimpArgs false
set_option linter.unusedVariables false
open List renaming range → ahl, length_map → ahs, mem_of_getElem? → aht
open Rat renaming add_zero → ahm, zero_add → ahn
open Bool renaming false_eq_true → aho, not_false → ahq, not_true → ahr
open Option renaming bind_none → ahp
open Nat renaming le_of_ble_eq_true → ahu
namespace Go.Mini
open Classical
theorem uQ {d:Day} {f:Nat→Nat} {l:List Nat} (h:d.falls f=l) (hl:l≠[]) (k:Nat):(d.rounds (k+1) f).1=l::(d.rounds k (d.fallen f (d.top f))).1∧(d.rounds (k+1) f).2=(d.rounds k (d.fallen f (d.top f))).2:=by
 rw[Day.rounds,if_neg (by rw[h];exact hl),h];exact⟨rfl,rfl⟩
theorem pd {d:Day} (hn:d.n=2) (f:Nat→Nat):d.falls f=(if d.top f 0<d.U 0 (f 0) then [0] else [])++if d.top f 1<d.U 1 (f 1) then [1] else []:=by
 unfold Day.falls;rw[hn,show ahl 2=[0,1] from rfl]
 by_cases h0:d.top f 0<d.U 0 (f 0)<;>by_cases h1:d.top f 1<d.U 1 (f 1)<;>simp [h0,h1]
theorem IU {d:Day} (hn:d.n=1) (f:Nat→Nat):d.falls f=(if d.top f 0<d.U 0 (f 0) then [0] else []):=by
 unfold Day.falls;rw[hn,show ahl 1=[0] from rfl]
 by_cases h0:d.top f 0<d.U 0 (f 0)<;>simp [h0]
theorem oz {d:Day} {f:Nat→Nat} {h:Nat→Rat} {i:Nat} (hh:¬ h i<d.U i (f i)):d.fallen f h i=f i:=if_neg fun x=>hh x.2
theorem mh {d:Day} {f:Nat→Nat} {h:Nat→Rat} {i r:Nat} (hi:i<d.n) (hh:h i<d.U i (f i)) (hr:r<10) (h1:∀ j,j<r→d.U i (j+1)≤h i) (h2:h i<d.U i (r+1)):d.fallen f h i=r:=by
 unfold Day.fallen;rw[if_pos ⟨hi,hh⟩]
 have:∀ k,k≤10→10-k≤r→d.fallRank h i k=r:=by
  intro k
  induction k with
  | zero=>intro _ h;omega
  | succ k ih =>
   intro hk hle;rw[Day.fallRank]
   by_cases he:10-(k+1)=r
   ·rw[if_pos (by rw[he];exact h2),he]
   ·rw[if_neg (by have:=h1 (10-(k+1)) (by omega);grind)]
    exact ih (by omega) (by omega)
 exact this 10 (by omega) (by omega)
theorem fH {d:Day} (hd:d.OK) {f:Nat→Nat} (hr:Reach d f):∀ i,i<d.n→d.top f i=d.into (d.q f (d.top f)) i:=by
 obtain⟨g,h1,h2,h3⟩:=Day.top_spec (hd.hex f hr);exact h2
theorem PL {d:Day} (hn:d.n=2) {f1:Nat→Nat} {l:List Nat} (h:d.falls (fun _=>10)=l) (hl:l≠[]) (hf:d.fallen (fun _=>10) (d.top fun _=>10)=f1) (h1:d.falls f1=[]):d.frs=[l]∧d.gr=d.top f1:=by
 have h2:=uQ h hl 19;rw[hf,d.rounds_stop h1] at h2;unfold Day.frs Day.gr Day.fend;rw[hn];exact⟨h2.1,by rw[show 10*2=19+1 from rfl,h2.2]⟩
theorem Qf {d:Day} (hn:d.n=1) {f1:Nat→Nat} {l:List Nat} (h:d.falls (fun _=>10)=l) (hl:l≠[]) (hf:d.fallen (fun _=>10) (d.top fun _=>10)=f1) (h1:d.falls f1=[]):d.frs=[l]∧d.gr=d.top f1:=by
 have h2:=uQ h hl 9;rw[hf,d.rounds_stop h1] at h2;unfold Day.frs Day.gr Day.fend;rw[hn];exact⟨h2.1,by rw[show 10*1=9+1 from rfl,h2.2]⟩
def e1:Day:=ac [5,0] [(0,1,0,10),(1,-1,0,4)]
theorem PZ:e1.OK:=mn (by decide)
theorem uV:e1.cl=[⟨0,1,0,10⟩,⟨1,-1,0,4⟩]:=rfl
theorem Sv:e1.cash 0=5∧e1.cash 1=0:=⟨rfl,rfl⟩
theorem Qd:e1.gr 0=5∧e1.gr 1=5∧e1.frs=[[0]]:=by
 have hd:=PZ;obtain⟨c0,c1⟩:=Sv;have r0:=Reach.start hd;have U0:∀ r,0<r→e1.U 0 r=10:=fun r hr=>by simp [uV,Day.U,sumC,ahm,ahn,hr]
 have U1:∀ r,0<r→e1.U 1 r=4:=fun r hr=>by simp [uV,Day.U,sumC,ahm,ahn,hr]
 have S0:e1.S 0 0=10:=by simp [uV,Day.S,sumC,ahm,ahn]
 have w0:e1.w ⟨0,1,0,10⟩=1:=by simp only[Day.w,S0];decide +kernel
 have t0:e1.top (fun _=>10) 0=5:=by rw[fH hd r0 0 (by decide)];simp [uV,Day.into,Day.q,sumC,c0,ahm,ahn]
 have t1:e1.top (fun _=>10) 1=10:=by rw[fH hd r0 1 (by decide)];simp [uV,Day.into,Day.q,sumC,c1,ahm,ahn]
 have f1:e1.falls (fun _=>10)=[0]:=by
  rw[pd rfl,t0,t1,U0 10 (by omega),U1 10 (by omega),if_pos (by decide +kernel),if_neg (by decide +kernel)];rfl
 have r1:=r0.next hd hd.hex;have g0:e1.fallen (fun _=>10) (e1.top fun _=>10) 0=0:=mh (by decide) (by rw[t0,U0 10 (by omega)];decide +kernel) (by omega) (fun j hj=>by omega) (by rw[t0,U0 1 (by omega)];decide +kernel);have g1:e1.fallen (fun _=>10) (e1.top fun _=>10) 1=10:=oz (by rw[t1,U1 10 (by omega)];decide +kernel);generalize hF:e1.fallen (fun _=>10) (e1.top fun _=>10)=F at *;have s0:e1.top F 0=5:=by rw[fH hd r1 0 (by decide)];simp [uV,Day.into,Day.q,sumC,c0,ahm,ahn]
 have s1:e1.top F 1=5:=by
  rw[fH hd r1 1 (by decide)];have hp:pos (5-0)=5:=by decide +kernel
  simp [uV,Day.into,Day.q,sumC,c1,g0,g1,w0,s0,e1.U_zero,hp,ahm,ahn]
  try grind
 have f2:e1.falls F=[]:=by
  rw[pd rfl,s0,s1,g0,g1,e1.U_zero,U1 10 (by omega),if_neg (by decide +kernel),if_neg (by decide +kernel)];rfl
 obtain⟨h1,h2⟩:=PL rfl f1 (by decide) hF f2;rw[h2];exact⟨s0,s1,h1⟩
def e2:Day:=ac [0,0] [(0,1,1,10),(1,0,1,10)]
theorem P8:e2.OK:=mn (by decide)
theorem D3:e2.cl=[⟨0,1,1,10⟩,⟨1,0,1,10⟩]:=rfl
theorem Sn:e2.cash 0=0∧e2.cash 1=0:=⟨rfl,rfl⟩
theorem PX:e2.gr 0=10∧e2.gr 1=10∧e2.frs=[]:=by
 have hd:=P8;obtain⟨c0,c1⟩:=Sn;have r0:=Reach.start hd;have U0:∀ r,1<r→e2.U 0 r=10:=fun r hr=>by simp [D3,Day.U,sumC,ahm,ahn,hr]
 have U1:∀ r,1<r→e2.U 1 r=10:=fun r hr=>by simp [D3,Day.U,sumC,ahm,ahn,hr]
 have t0:e2.top (fun _=>10) 0=10:=by rw[fH hd r0 0 (by decide)];simp [D3,Day.into,Day.q,sumC,c0,ahm,ahn]
 have t1:e2.top (fun _=>10) 1=10:=by rw[fH hd r0 1 (by decide)];simp [D3,Day.into,Day.q,sumC,c1,ahm,ahn]
 have f1:e2.falls (fun _=>10)=[]:=by
  rw[pd rfl,t0,t1,U0 10 (by omega),U1 10 (by omega),if_neg (by decide +kernel)];rfl
 have h1:=e2.rounds_stop f1 (10*e2.n);unfold Day.gr Day.fend Day.frs;rw[h1];exact⟨t0,t1,rfl⟩
def e4:Day:=ac [9] [(0,-1,0,6),(0,-1,1,2),(0,-1,1,4)]
theorem Ri:e4.OK:=mn (by decide)
theorem Ea:e4.cl=[⟨0,-1,0,6⟩,⟨0,-1,1,2⟩,⟨0,-1,1,4⟩]:=rfl
theorem R4:e4.cash 0=9:=rfl
theorem P5:e4.gr 0=9∧e4.frs=[[0]]:=by
 have hd:=Ri;have c0:=R4;have r0:=Reach.start hd;have tt:∀ f,Reach e4 f→e4.top f 0=9:=fun f hr=>by rw[fH hd hr 0 (by decide)];simp [Ea,Day.into,Day.q,sumC,c0,ahm,ahn]
 have U10:e4.U 0 10=12:=by simp only[Ea,Day.U,sumC];decide +kernel
 have U1:e4.U 0 1=6:=by simp only[Ea,Day.U,sumC];decide +kernel
 have U2:e4.U 0 2=12:=by simp only[Ea,Day.U,sumC];decide +kernel
 have t0:=tt _ r0
 have f1:e4.falls (fun _=>10)=[0]:=by
  rw[IU rfl,t0,U10,if_pos (by decide +kernel)]
 have r1:=r0.next hd hd.hex;have g0:e4.fallen (fun _=>10) (e4.top fun _=>10) 0=1:=mh (by decide) (by rw[t0,U10];decide +kernel) (by omega) (fun j hj=>by rw[show j=0 by omega,t0,U1];decide +kernel) (by rw[t0,U2];decide +kernel);generalize hF:e4.fallen (fun _=>10) (e4.top fun _=>10)=F at *;have s0:=tt _ r1
 have f2:e4.falls F=[]:=by
  rw[IU rfl,s0,g0,U1,if_neg (by decide +kernel)]
 obtain⟨h1,h2⟩:=Qf rfl f1 (by decide) hF f2;rw[h2];exact⟨s0,h1⟩
theorem QY {d:Day} (hn:d.n=2) {f1 f2 f3:Nat→Nat} {l1 l2 l3:List Nat} (h1:d.falls (fun _=>10)=l1) (hl1:l1≠[]) (hf1:d.fallen (fun _=>10) (d.top fun _=>10)=f1) (h2:d.falls f1=l2) (hl2:l2≠[]) (hf2:d.fallen f1 (d.top f1)=f2) (h3:d.falls f2=l3) (hl3:l3≠[]) (hf3:d.fallen f2 (d.top f2)=f3) (h4:d.falls f3=[]):d.frs=[l1,l2,l3]∧d.gr=d.top f3:=by
 have k1:=uQ h1 hl1 19;have k2:=uQ h2 hl2 18;have k3:=uQ h3 hl3 17;rw[hf1] at k1;rw[hf2] at k2;rw[hf3,d.rounds_stop h4] at k3;unfold Day.frs Day.gr Day.fend;rw[hn];refine⟨?_,?_⟩
 ·rw[show 10*2=19+1 from rfl,k1.1,show 19=18+1 from rfl,k2.1,show 18=17+1 from rfl,k3.1]
 ·rw[show 10*2=19+1 from rfl,k1.2,show 19=18+1 from rfl,k2.2,show 18=17+1 from rfl,k3.2]
def e3:Day:=ac [0,0] [(0,1,1,10),(1,0,1,10),(0,-1,0,5)]
theorem Ro:e3.OK:=mn (by decide)
theorem kM:e3.cl=[⟨0,1,1,10⟩,⟨1,0,1,10⟩,⟨0,-1,0,5⟩]:=rfl
theorem Sg:e3.cash 0=0∧e3.cash 1=0:=⟨rfl,rfl⟩
theorem Ii {x y:Rat} (h:x=pos y):(y≤0∧x=0)∨(0≤y∧x=y):=by
 unfold pos at h
 split at h
 ·left;constructor<;>grind
 ·right;constructor<;>grind
theorem Rp:e3.gr 0=0∧e3.gr 1=0∧e3.frs=[[0],[1],[0]]:=by
 have hd:=Ro;obtain⟨c0,c1⟩:=Sg;have r0:=Reach.start hd;have U01:e3.U 0 1=5:=by simp only[kM,Day.U,sumC];decide +kernel
 have U02:e3.U 0 2=15:=by simp only[kM,Day.U,sumC];decide +kernel
 have U0:e3.U 0 10=15:=by simp only[kM,Day.U,sumC];decide +kernel
 have U11:e3.U 1 1=0:=by simp only[kM,Day.U,sumC];decide +kernel
 have U12:e3.U 1 2=10:=by simp only[kM,Day.U,sumC];decide +kernel
 have U1:e3.U 1 10=10:=by simp only[kM,Day.U,sumC];decide +kernel
 have S01:e3.S 0 1=10:=by simp only[kM,Day.S,sumC];decide +kernel
 have S11:e3.S 1 1=10:=by simp only[kM,Day.S,sumC];decide +kernel
 have w0:e3.w ⟨0,1,1,10⟩=1:=by simp only[Day.w,S01];decide +kernel
 have w1:e3.w ⟨1,0,1,10⟩=1:=by simp only[Day.w,S11];decide +kernel
 have t0:e3.top (fun _=>10) 0=10:=by rw[fH hd r0 0 (by decide)];simp [kM,Day.into,Day.q,sumC,c0,ahm,ahn]
 have t1:e3.top (fun _=>10) 1=10:=by rw[fH hd r0 1 (by decide)];simp [kM,Day.into,Day.q,sumC,c1,ahm,ahn]
 have f1:e3.falls (fun _=>10)=[0]:=by
  rw[pd rfl,t0,t1,U0,U1,if_pos (by decide +kernel),if_neg (by decide +kernel)];rfl
 have r1:=r0.next hd hd.hex;have g0:e3.fallen (fun _=>10) (e3.top fun _=>10) 0=1:=mh (by decide) (by rw[t0,U0];decide +kernel) (by omega) (fun j hj=>by rw[show j=0 by omega,t0,U01];decide +kernel) (by rw[t0,U02];decide +kernel);have g1:e3.fallen (fun _=>10) (e3.top fun _=>10) 1=10:=oz (by rw[t1,U1];decide +kernel);generalize hF:e3.fallen (fun _=>10) (e3.top fun _=>10)=F at *;have s0:e3.top F 0=10:=by rw[fH hd r1 0 (by decide)];simp [kM,Day.into,Day.q,sumC,c0,g1,ahm,ahn]
 have s1:e3.top F 1=5:=by
  have hp:pos (10-5)=5:=by decide +kernel
  rw[fH hd r1 1 (by decide)];simp [kM,Day.into,Day.q,sumC,c1,g0,w0,s0,U01,hp,ahm,ahn]
  try grind
 have f2:e3.falls F=[1]:=by
  rw[pd rfl,s0,s1,g0,g1,U01,U1,if_neg (by decide +kernel),if_pos (by decide +kernel)];rfl
 have r2:=r1.next hd hd.hex;have k0:e3.fallen F (e3.top F) 0=1:=(oz (by rw[s0,g0,U01];decide +kernel)).trans g0;have k1:e3.fallen F (e3.top F) 1=1:=mh (by decide) (by rw[s1,g1,U1];decide +kernel) (by omega) (fun j hj=>by rw[show j=0 by omega,s1,U11];decide +kernel) (by rw[s1,U12];decide +kernel);generalize hG:e3.fallen F (e3.top F)=G at *;have x0:=fH hd r2 0 (by decide);have x1:=fH hd r2 1 (by decide);simp [kM,Day.into,Day.q,sumC,c0,c1,k0,k1,w0,w1,U01,U11,ahm,ahn,Rat.one_mul] at x0 x1
 have v:e3.top G 0=0∧e3.top G 1=0:=by
  rcases Ii x0 with ⟨y1,y2⟩ | ⟨y1,y2⟩<;>rcases Ii x1 with ⟨z1,z2⟩ | ⟨z1,z2⟩<;>constructor<;>grind
 obtain⟨v0,v1⟩:=v
 have f3:e3.falls G=[0]:=by
  rw[pd rfl,v0,v1,k0,k1,U01,U11,if_pos (by decide +kernel),if_neg (by decide +kernel)];rfl
 have r3:=r2.next hd hd.hex;have m0:e3.fallen G (e3.top G) 0=0:=mh (by decide) (by rw[v0,k0,U01];decide +kernel) (by omega) (fun j hj=>by omega) (by rw[v0,U01];decide +kernel);have m1:e3.fallen G (e3.top G) 1=1:=(oz (by rw[v1,k1,U11];decide +kernel)).trans k1;generalize hH:e3.fallen G (e3.top G)=H at *
 have p1:e3.top H 1=0:=by
  rw[fH hd r3 1 (by decide)];simp [kM,Day.into,Day.q,sumC,c1,m0,ahm,ahn]
 have p0:e3.top H 0=0:=by
  have hp:pos (0-0)=0:=by decide +kernel
  rw[fH hd r3 0 (by decide)];simp [kM,Day.into,Day.q,sumC,c0,m1,w1,p1,U11,hp,ahm,ahn]
 have f4:e3.falls H=[]:=by
  rw[pd rfl,p0,p1,m0,m1,e3.U_zero,U11,if_neg (by decide +kernel)];rfl
 obtain⟨h1,h2⟩:=QY rfl f1 (by decide) hF f2 (by decide) hG f3 (by decide) hH f4;rw[h2];exact⟨p0,p1,h1⟩
def e5:Day:=ac [10,30] [(1,-1,0,25)]
def e6:Day:=ac [10,0] [(0,1,0,30)]
def e7:Day:=ac [30,0] [(0,1,0,30)]
end Go.Mini
namespace Go.Mini
open Go
set_option maxRecDepth 10000
set_option maxHeartbeats 4000000
theorem Se:HasOK [5,0] [(0,1,0,10),(1,-1,0,4)] [5,5] [5,4] [[0]]:=by
 obtain⟨g0,g1,g2⟩:=Qd;refine⟨⟨by decide,by decide,by decide,by decide⟩,?_,?_,?_,fun n hn=>?_,fun n hn=>?_,by decide,by decide⟩
 ·show [aj (e1.gr 0),aj (e1.gr 1)]=_
  rw[g0,g1];rfl
 ·show [aj (cv _ (e1.gr 0) _),aj (cv _ (e1.gr 1) _)]=_
  rw[g0,g1,show cv [(0,1,0,10),(1,-1,0,4)] 5 (0,1,0,10)=5 by decide +kernel,show cv [(0,1,0,10),(1,-1,0,4)] 5 (1,-1,0,4)=4 by decide +kernel];rfl
 ·show e1.frs.map _=_
  rw[g2];rfl
 ·simp at hn;subst hn;exact d7 (by omega) (by omega)
 ·simp at hn;rcases hn with rfl | rfl<;>exact d7 (by omega) (by omega)
theorem R9:HasOK [0,0] [(0,1,1,10),(1,0,1,10)] [10,10] [10,10] []:=by
 obtain⟨g0,g1,g2⟩:=PX;refine⟨⟨by decide,by decide,by decide,by decide⟩,?_,?_,?_,fun n hn=>?_,fun n hn=>?_,by decide,by decide⟩
 ·show [aj (e2.gr 0),aj (e2.gr 1)]=_
  rw[g0,g1];rfl
 ·show [aj (cv _ (e2.gr 0) _),aj (cv _ (e2.gr 1) _)]=_
  rw[g0,g1,show cv [(0,1,1,10),(1,0,1,10)] 10 (0,1,1,10)=10 by decide +kernel,show cv [(0,1,1,10),(1,0,1,10)] 10 (1,0,1,10)=10 by decide +kernel];rfl
 ·show e2.frs.map _=_
  rw[g2];rfl
 ·simp at hn;subst hn;exact d7 (by omega) (by omega)
 ·simp at hn;subst hn;exact d7 (by omega) (by omega)
theorem R8:HasOK [0,0] [(0,1,1,10),(1,0,1,10),(0,-1,0,5)] [0,0] [0,0,0] [[0],[1],[0]]:=by
 obtain⟨g0,g1,g2⟩:=Rp;refine⟨⟨by decide,by decide,by decide,by decide⟩,?_,?_,?_,fun n hn=>?_,fun n hn=>?_,by decide,by decide⟩
 ·show [aj (e3.gr 0),aj (e3.gr 1)]=_
  rw[g0,g1];rfl
 ·show [aj (cv _ (e3.gr 0) _),aj (cv _ (e3.gr 1) _),aj (cv _ (e3.gr 0) _)]=_
  rw[g0,g1,show cv [(0,1,1,10),(1,0,1,10),(0,-1,0,5)] 0 (0,1,1,10)=0 by decide +kernel,show cv [(0,1,1,10),(1,0,1,10),(0,-1,0,5)] 0 (1,0,1,10)=0 by decide +kernel,show cv [(0,1,1,10),(1,0,1,10),(0,-1,0,5)] 0 (0,-1,0,5)=0 by decide +kernel];rfl
 ·show e3.frs.map _=_
  rw[g2];rfl
 ·simp at hn;subst hn;exact d7 (by omega) (by omega)
 ·simp at hn;subst hn;exact d7 (by omega) (by omega)
theorem Sw:HasOK [9] [(0,-1,0,6),(0,-1,1,2),(0,-1,1,4)] [9] [6,1,2] [[0]]:=by
 obtain⟨g0,g2⟩:=P5;refine⟨⟨by decide,by decide,by decide,by decide⟩,?_,?_,?_,fun n hn=>?_,fun n hn=>?_,by decide,by decide⟩
 ·show [aj (e4.gr 0)]=_
  rw[g0];rfl
 ·show [aj (cv _ (e4.gr 0) _),aj (cv _ (e4.gr 0) _),aj (cv _ (e4.gr 0) _)]=_
  rw[g0,show cv [(0,-1,0,6),(0,-1,1,2),(0,-1,1,4)] 9 (0,-1,0,6)=6 by decide +kernel,show cv [(0,-1,0,6),(0,-1,1,2),(0,-1,1,4)] 9 (0,-1,1,2)=1 by decide +kernel,show cv [(0,-1,0,6),(0,-1,1,2),(0,-1,1,4)] 9 (0,-1,1,4)=2 by decide +kernel];rfl
 ·show e4.frs.map _=_
  rw[g2];rfl
 ·simp at hn;subst hn;exact d7 (by omega) (by omega)
 ·simp at hn;rcases hn with rfl | rfl | rfl<;>exact d7 (by omega) (by omega)
noncomputable def tl:List Data→Option PRes:=FF (α:=Unit) (fun (_:Unit)=>([]:List Data)) (fun (_:Unit)=>some (.same (.bool true)))
theorem yB:∀ a b:Unit,(fun (_:Unit)=>([]:List Data)) a=(fun (_:Unit)=>([]:List Data)) b→a=b:=by
  intro _ _ _;rfl
@[go_sem] theorem Ag :tl []=some (.same (.bool true)):=aX yB ()
theorem Jh (T:Tab) (Ja:T gL=mkE CL) (cA:T ei=mkE mg)  :
  wp T mf_law20_small.body (bF mf_law20_small.res (.same (.bool true))) ⟨ax [],emp⟩:=by
 refine ap ?_;simp only[mf_law20_small];have k1:=oK _ _ _ _ _ Se;have k2:=oK _ _ _ _ _ R9;have k3:=oK _ _ _ _ _ R8;have k4:=oK _ _ _ _ _ Sw;have k5:=nI [-1] [] ⟨by decide,by decide,fun h=>absurd h (by decide)⟩
 have k6:Dm [-1] [] = .tup [.agg [.sl [],.sl [],.sl []],.int .i64 1]:=if_neg (by decide);rw[k6] at k5;simp only[List.map_cons,List.map_nil,aa,clL,jh] at k1 k2 k3 k4 k5;have hD:toD 6 (az emp 215019 0 [.dat (.int .i64 0),.dat (.int .i64 1),.dat (.int .i64 1),.dat (.int .i64 10),.dat (.int .i64 1),.dat (.int .i64 0),.dat (.int .i64 1),.dat (.int .i64 10)]) (.ref 215019 0 4 0 2)=some (.sl [[.int .i64 0,.int .i64 1,.int .i64 1,.int .i64 10],[.int .i64 1,.int .i64 0,.int .i64 1,.int .i64 10]]):=rfl;have hap:kT 215019 0 4 2 32 1 [.dat (.int .i64 0),.dat (.int .i64 (-1)),.dat (.int .i64 0),.dat (.int .i64 5)] (some (0,[.dat (.int .i64 0),.dat (.int .i64 1),.dat (.int .i64 1),.dat (.int .i64 10),.dat (.int .i64 1),.dat (.int .i64 0),.dat (.int .i64 1),.dat (.int .i64 10)]))=some (.ref 215019 1 4 0 3,some (215019,1,[.dat (.int .i64 0),.dat (.int .i64 1),.dat (.int .i64 1),.dat (.int .i64 10),.dat (.int .i64 1),.dat (.int .i64 0),.dat (.int .i64 1),.dat (.int .i64 10),.dat (.int .i64 0),.dat (.int .i64 (-1)),.dat (.int .i64 0),.dat (.int .i64 5)])):=dm oH xm 215019 0 32 [(0,1,1,10),(1,0,1,10)] (0,-1,0,5) rfl (by decide) (by decide);have hD2:toD 6 (az (az emp 215019 0 [.dat (.int .i64 0),.dat (.int .i64 1),.dat (.int .i64 1),.dat (.int .i64 10),.dat (.int .i64 1),.dat (.int .i64 0),.dat (.int .i64 1),.dat (.int .i64 10)]) 215019 1 [.dat (.int .i64 0),.dat (.int .i64 1),.dat (.int .i64 1),.dat (.int .i64 10),.dat (.int .i64 1),.dat (.int .i64 0),.dat (.int .i64 1),.dat (.int .i64 10),.dat (.int .i64 0),.dat (.int .i64 (-1)),.dat (.int .i64 0),.dat (.int .i64 5)]) (.ref 215019 1 4 0 3)=some (.sl [[.int .i64 0,.int .i64 1,.int .i64 1,.int .i64 10],[.int .i64 1,.int .i64 0,.int .i64 1,.int .i64 10],[.int .i64 0,.int .i64 (-1),.int .i64 0,.int .i64 5]]):=rfl;simp only[go_sem,go_sem_proc,aho,Ja,cA,k1,k2,k3,k4,k5,hD,hap,hD2,kL,ahp,scalar,beq_self_eq_true]
 repeat' (first|refine qS ?_ ?_|fail)<;>intro h<;>simp only[h,go_sem,go_sem_proc,aho,Ja,cA,k1,k2,k3,k4,k5,hD,hap,hD2,kL,ahp,scalar,beq_self_eq_true]
noncomputable def nJ:List Data→Option PRes:=FF (α:=(List Int) × (List ClR) × (List aF)) (fun (cash,cs,o)=>([.sl (cash.map aa),.sl (cs.map clL),.sl (o.map ad)]:List Data)) (fun (cash,cs,o)=>some (.same (.bool true)))
theorem sA:∀ a b:(List Int) × (List ClR) × (List aF),(fun (cash,cs,o)=>([.sl (cash.map aa),.sl (cs.map clL),.sl (o.map ad)]:List Data)) a=(fun (cash,cs,o)=>([.sl (cash.map aa),.sl (cs.map clL),.sl (o.map ad)]:List Data)) b→a=b:=by
  rintro⟨cash1,cs1,o1⟩ ⟨cash2,cs2,o2⟩ h;simp only[List.cons.injEq,Data.sl.injEq,and_true] at h;exact Prod.ext (af ai _ _ h.1) (Prod.ext (af f5 _ _ h.2.1) (af de _ _ h.2.2))
@[go_sem] theorem uj (cash:List Int) (cs:List ClR) (o:List aF):nJ [.sl (cash.map aa),.sl (cs.map clL),.sl (o.map ad)]=some (.same (.bool true)):=aX sA (cash,cs,o)
theorem AI (T:Tab) (ib:T kG=mkE tl) (ln:T mS=mkE Cb) (dS:T iP=mkE ny) (cA:T ei=mkE mg) (dG:T eR=mkE pI) (aw:T a0=mkE dr) (cash:List Int) (cs:List ClR) (o:List aF) :
  wp T mf_law20_ClearGreatest.body (bF mf_law20_ClearGreatest.res (.same (.bool true))) ⟨ax [.dat (.sl (cash.map aa)),.dat (.sl (cs.map clL)),.dat (.sl (o.map ad))],emp⟩:=by
 refine ap ?_;simp only[mf_law20_ClearGreatest];have sm:=Ag;have g1:=GP cash cs;have g2:=uZ o 6 2 (by omega);rcases hf:tG cash cs
 ·rw[hf] at g1
  refine qI ?_
  repeat' (intro h<;>simp only[h,go_sem,go_sem_proc,aho,ib,ln,dS,cA,dG,aw,sm,g1,ahq]<;>try refine qS ?_ ?_)
 rw[hf] at g1;rcases hx:nh o 6 2
 ·rw[hx] at g2
  refine qI ?_
  repeat' (intro h<;>simp only[h,go_sem,go_sem_proc,aho,ib,ln,dS,cA,dG,aw,sm,g1,g2,ahq,ahr]<;>try refine qS ?_ ?_)
 rw[hx] at g2;have sv:=nI cash cs (DK hf);have fo:=pD cash cs o (Mr hf hx);have oko:=Bw (by omega) (by omega) hx;have hn5:=(fewD_iff.1 hf).1;unfold Dm at sv;rcases hr:cS cash cs
 ·rw[if_neg (by rw[hr];decide)] at sv
  unfold oX at fo;rw[hr,Bool.false_and] at fo;refine qI ?_
  repeat' (intro h<;>simp only[h,go_sem,go_sem_proc,aho,ib,ln,dS,cA,dG,aw,sm,g1,g2,sv,fo,show ((1:Int)==0)=false from rfl,bne,beq_self_eq_true,ahq,ahr]<;>try refine qS ?_ ?_)
 rw[if_pos hr] at sv;have hs:=wX hf hr;obtain⟨q1,q2⟩:=Bf hs;have fh:=pD cash cs (iK cash cs) q1;rw[q2] at fh;have hl:(iK cash cs).length=cash.length:=cW _ _;have hle:(((iK cash cs).length:Int)==(cash.length:Int))=true:=by rw[hl];exact beq_self_eq_true _
 have hok:=Eo hs;rcases hfo:oX cash cs o
 ·rw[hfo] at fo
  refine qI ?_
  repeat' (intro h<;>simp only[h,go_sem,go_sem_proc,aho,ib,ln,dS,cA,dG,aw,sm,g1,g2,sv,fo,fh,hl,hle,bne,beq_self_eq_true,ahs,ahq,ahr]<;>try refine qS ?_ ?_)
 rw[hfo] at fo;have hget:∀ i,i<cash.length→(iK cash cs)[i]?=some (aj ((ac cash cs).gr i)):=fun i hi=>eP _ hi
 have hcm:=fun i f=>J7 hs hfo (i:=i) (f:=f)
 generalize iK cash cs=HV at *;generalize uX cash cs=PD at *;generalize (ac cash cs).frs.map nY=FD at *;generalize (ac cash cs).gr=gr at *;simp only[go_sem,go_sem_proc,aho,ib,ln,dS,cA,dG,aw,sm,g1,g2,sv,fo,fh,hl,hle,bne,beq_self_eq_true,ahs,ahq,ahr];refine ae [0,2,7,8] [211008] (fun (i:Nat) tm mem=>i≤cash.length∧tm 10 = .dat (.int .i64 i)) (fun i=>cash.length-i) 0 (by refine⟨Nat.zero_le _,rfl⟩) ?_;intro vs ms hvs hms;simp only[go_sem,go_sem_proc,aho,ib,ln,dS,cA,dG,aw,ahs] at hvs hms;subst hvs hms;rintro i tm mem hk hm ⟨hi,e10⟩;simp only[go_sem,go_sem_proc,aho,ib,ln,dS,cA,dG,aw,List.cons.injEq] at hk hm;obtain⟨e0,e2,e7,e8⟩:=hk;rcases d1:decide ((i:Int)<(cash.length:Int))
 ·refine qI ?_
  repeat' (intro h<;>simp only[h,go_sem,go_sem_proc,aho,ib,ln,dS,cA,dG,aw,e0,e2,e7,e8,e10,d1,ahs]<;>try refine qS ?_ ?_)
 rcases d2:decide ((i:Int)<(o.length:Int))
 ·refine qI ?_
  repeat' (intro h<;>simp only[h,go_sem,go_sem_proc,aho,ib,ln,dS,cA,dG,aw,e0,e2,e7,e8,e10,d1,d2,ahs]<;>try refine qS ?_ ?_)
 have hic:i<cash.length:=by have:=of_decide_eq_true d1;omega
 have hio:i<o.length:=by have:=of_decide_eq_true d2;omega
 have w3:IntKind.i64.wrap ((i:Int)+1)=((i+1:Nat):Int):=by rw[an _ (by omega) (by omega)];omega
 obtain⟨f,hx⟩:∃ x,o[i]?=some x:=⟨_,List.getElem?_eq_getElem hio⟩;have hy:=hget i hic;have hle:=(hcm i f hx).2;have o1:=oko.2 f (aht hx);have o2:=hok.2 _ (aht hy);have hd:decide (kg f (aj (gr i))>0)=false:=decide_eq_false (by omega);generalize aj (gr i)=H at *;obtain⟨⟨a1,a2⟩,⟨a3,a4⟩⟩:=f;obtain⟨⟨b1,b2⟩,⟨b3,b4⟩⟩:=H;obtain⟨o1,o1'⟩:=o1;obtain⟨o2,o2'⟩:=o2;dsimp only at o1 o1' o2 o2';refine qI ?_
 repeat' (intro h<;>simp only[h,go_sem,go_sem_proc,aho,ib,ln,dS,cA,dG,aw,e0,e2,e7,e8,e10,hm,hx,hy,d1,d2,w3,hd,o1,o1',o2,o2',ad,ahs,List.getElem?_map]<;>try refine qS ?_ ?_)
 exact⟨i+1,by omega,by omega,rfl⟩
end Go.Mini
namespace Go.Mini
open Go Go.Proofs
set_option maxRecDepth 100000
theorem psF {P : Program} {T : Tab} {kb : Nat} {own : List Nat} {α : Type} {args : α → List Data} {res : α → Option PRes} (hT : jR P T) (hm : P.follows .mixedOrders = true) {f : FuncId} {fn : Func} {mf : MFunc} (hf : P.funcs[f]? = some fn) (hname : (fn.name == "runtime.NumGoroutine") = false) (htr : jL P kb own fn = some { mf with body := erase mf.body }) (h : ∀ a r, res a = some r → (args a).length ≤ mf.n ∧ wp T mf.body (bF mf.res r) ⟨ax ((args a).map .dat), emp⟩) : aQ P f (FF args res) := Jy hT hm hf hname htr fun ds r hr => by
 obtain⟨a,rfl,h2⟩:=Nd hr;exact h a r h2
theorem mixed:Try.prog.follows .mixedOrders=true:=by kernel_rfl
theorem oL:aQ Try.prog cq mR:=psF (mf:=mf_big_trim) (kb:=177000) (own:=[]) (av (aC aq) (aB au)) mixed Try.func88 (by kernel_rfl) (by kernel_rfl) fun x0 r hr=>by obtain⟨hc,rfl⟩:=ao hr;exact⟨ahu rfl,M7 _  x0 hc⟩
theorem ov:iD Try.prog cq (mkG jQ):=RSpec.toE (z7 (mf:=mf_big_trim) (kb:=177000) (own:=[]) (av (aC aq) (aB au)) mixed Try.func88 (by kernel_rfl) (by kernel_rfl) fun args mem x h=>by
 obtain⟨a,⟨rfl,hm,hl⟩,rfl⟩:=Cx h;exact⟨ahu rfl,LR _ a.l a.k a.g mem hm hl⟩)
theorem HS:aQ Try.prog gD xh:=psF (mf:=mf_cmp_isNaN_int) (kb:=184000) (own:=[]) (av (aC aq) (aB au)) mixed Try.func90 (by kernel_rfl) (by kernel_rfl) fun x0 r hr=>by obtain rfl:=Option.some.inj hr;exact⟨ahu rfl,K3 _  x0⟩
theorem DJ:aQ Try.prog dw yb:=psF (mf:=mf_cmp_Compare_int) (kb:=174000) (own:=[]) (av (aC (ab HS aq)) (aB au)) mixed Try.func68 (by kernel_rfl) (by kernel_rfl) fun⟨x0,x1⟩ r hr=>by obtain rfl:=Option.some.inj hr;exact⟨ahu rfl,NK _ (ah rfl rfl) x0 x1⟩
theorem Og:aQ Try.prog lJ Iw:=psF (mf:=mf_cmp_Or_int) (kb:=179000) (own:=[]) (av (aC aq) (aB au)) mixed Try.func91 (by kernel_rfl) (by kernel_rfl) fun x0 r hr=>by obtain⟨hc,rfl⟩:=ao hr;exact⟨ahu rfl,PJ _  x0 hc⟩
theorem qe:aQ Try.prog bK mM:=psF (mf:=mf_slices_Clone_int) (kb:=156000) (own:=[5]) (av (aC aq) (aB au)) mixed Try.func45 (by kernel_rfl) (by kernel_rfl) fun x0 r hr=>by obtain⟨hc,rfl⟩:=ao hr;exact⟨ahu rfl,K2 _  x0 hc⟩
theorem eI:aQ Try.prog ba d8:=psF (mf:=mf_big_Right) (kb:=136000) (own:=[]) (av (aC aq) (aB au)) mixed Try.func60 (by kernel_rfl) (by kernel_rfl) fun⟨x0,x1⟩ r hr=>by obtain⟨hc,rfl⟩:=ao hr;exact⟨ahu rfl,BP _  x0 x1 hc⟩
theorem kl:aQ Try.prog bA jC:=psF (mf:=mf_big_signed) (kb:=158000) (own:=[]) (av (aC (ab oL aq)) (aB (eJ ov au))) mixed Try.func65 (by kernel_rfl) (by kernel_rfl) fun⟨x0,x1⟩ r hr=>by obtain⟨hc,rfl⟩:=ao hr;exact⟨ahu rfl,I7 _ (oo rfl rfl) x0 x1 hc⟩
theorem po:aQ Try.prog ej lY:=psF (mf:=mf_big_compare) (kb:=175000) (own:=[]) (av (aC (ab DJ aq)) (aB au)) mixed Try.func69 (by kernel_rfl) (by kernel_rfl) fun⟨x0,x1⟩ r hr=>by obtain⟨hc,rfl⟩:=ao hr;exact⟨ahu rfl,Fb _ (ah rfl rfl) x0 x1 hc⟩
theorem Hn:aQ Try.prog kH Er:=psF (mf:=mf_big_add) (kb:=172000) (own:=[]) (av (aC (ab oL aq)) (aB (eJ ov au))) mixed Try.func66 (by kernel_rfl) (by kernel_rfl) fun⟨x0,x1⟩ r hr=>by obtain⟨hc,rfl⟩:=ao hr;exact⟨ahu rfl,Ra _ (oo rfl rfl) x0 x1 hc⟩
theorem HE:aQ Try.prog jc Ev:=psF (mf:=mf_big_sub) (kb:=173000) (own:=[10]) (av (aC (ab qe (ab oL aq))) (aB (eJ ov au))) mixed Try.func67 (by kernel_rfl) (by kernel_rfl) fun⟨x0,x1⟩ r hr=>by obtain⟨hc,rfl⟩:=ao hr;exact⟨ahu rfl,Qs _ (ah rfl rfl) (oo rfl rfl) x0 x1 hc⟩
theorem JU:aQ Try.prog jl EX:=psF (mf:=mf_big_mul) (kb:=161000) (own:=[]) (av (aC (ab oL aq)) (aB (eJ ov au))) mixed Try.func72 (by kernel_rfl) (by kernel_rfl) fun⟨x0,x1⟩ r hr=>by obtain⟨hc,rfl⟩:=ao hr;exact⟨ahu rfl,Q7 _ (oo rfl rfl) x0 x1 hc⟩
theorem I2:aQ Try.prog jZ xy:=psF (mf:=mf_big_short) (kb:=176000) (own:=[]) (av (aC (ab oL aq)) (aB (eJ ov au))) mixed Try.func87 (by kernel_rfl) (by kernel_rfl) fun⟨x0,x1⟩ r hr=>by obtain⟨hc,rfl⟩:=ao hr;exact⟨ahu rfl,Me _ (oo rfl rfl) x0 x1 hc⟩
theorem Fh:iD Try.prog lH (mkG nB):=RSpec.toE (z7 (mf:=mf_big_settle) (kb:=178000) (own:=[]) (av (aC aq) (aB au)) mixed Try.func89 (by kernel_rfl) (by kernel_rfl) fun args mem x h=>by
 obtain⟨a,⟨rfl,hc⟩,rfl⟩:=Cx h;exact⟨ahu rfl,Jm _ a mem hc⟩)
theorem HI:aQ Try.prog kK Ey:=psF (mf:=mf_big_div) (kb:=157000) (own:=[54]) (av (aC (ab po (ab qe (ab I2 (ab oL (ab JU aq)))))) (aB (eJ ov (eJ Fh au)))) mixed Try.func64 (by kernel_rfl) (by kernel_rfl) fun⟨x0,x1⟩ r hr=>by obtain⟨hc,rfl⟩:=ao hr;exact⟨ahu rfl,Rc _ (ah rfl rfl) (ah rfl rfl) (ah rfl rfl) (oo rfl rfl) (ah rfl rfl) (nq rfl rfl) x0 x1 hc⟩
theorem pw:aQ Try.prog cj md:=psF (mf:=mf_big_checked) (kb:=155000) (own:=[]) (av (aC aq) (aB au)) mixed Try.func71 (by kernel_rfl) (by kernel_rfl) fun⟨x0,x1,x2⟩ r hr=>by obtain rfl:=Option.some.inj hr;exact⟨ahu rfl,Fd _  x0 x1 x2⟩
theorem Ie:aQ Try.prog jb D5:=psF (mf:=mf_big_Neg) (kb:=152000) (own:=[]) (av (aC (ab eI (ab qe (ab kl aq)))) (aB au)) mixed Try.func80 (by kernel_rfl) (by kernel_rfl) fun⟨x0,x1⟩ r hr=>by obtain⟨hc,rfl⟩:=ao hr;exact⟨ahu rfl,Qt _ (ah rfl rfl) (ah rfl rfl) (ah rfl rfl) x0 x1 hc⟩
theorem wY:aQ Try.prog dH vS:=psF (mf:=mf_big_Mul) (kb:=140000) (own:=[]) (av (aC (ab eI (ab JU (ab kl (ab pw aq))))) (aB au)) mixed Try.func40 (by kernel_rfl) (by kernel_rfl) fun⟨x0,x1,x2,x3⟩ r hr=>by obtain⟨hc,rfl⟩:=ao hr;exact⟨ahu rfl,Rv _ (ah rfl rfl) (ah rfl rfl) (ah rfl rfl) (ah rfl rfl) x0 x1 x2 x3 hc⟩
theorem NW:aQ Try.prog pr Jk:=psF (mf:=mf_big_Add) (kb:=160000) (own:=[]) (av (aC (ab eI (ab Og (ab Hn (ab HE (ab po (ab kl (ab pw aq)))))))) (aB au)) mixed Try.func70 (by kernel_rfl) (by kernel_rfl) fun⟨x0,x1,x2,x3⟩ r hr=>by obtain⟨hc,rfl⟩:=ao hr;exact⟨ahu rfl,P1 _ (ah rfl rfl) (ah rfl rfl) (ah rfl rfl) (ah rfl rfl) (ah rfl rfl) (ah rfl rfl) (ah rfl rfl) x0 x1 x2 x3 hc⟩
theorem Ca:aQ Try.prog kB rl:=psF (mf:=mf_big_Compare) (kb:=154000) (own:=[]) (av (aC (ab eI (ab DJ (ab po aq)))) (aB au)) mixed Try.func38 (by kernel_rfl) (by kernel_rfl) fun⟨x0,x1,x2,x3⟩ r hr=>by obtain⟨hc,rfl⟩:=ao hr;exact⟨ahu rfl,E9 _ (ah rfl rfl) (ah rfl rfl) (ah rfl rfl) x0 x1 x2 x3 hc⟩
theorem Js:aQ Try.prog kO Ec:=psF (mf:=mf_big_Gcd) (kb:=137000) (own:=[]) (av (aC (ab eI (ab qe (ab HI (ab kl (ab pw aq)))))) (aB au)) mixed Try.func61 (by kernel_rfl) (by kernel_rfl) fun⟨x0,x1,x2,x3⟩ r hr=>by obtain⟨hc,rfl⟩:=ao hr;exact⟨ahu rfl,Qo _ (ah rfl rfl) (ah rfl rfl) (ah rfl rfl) (ah rfl rfl) (ah rfl rfl) x0 x1 x2 x3 hc⟩
theorem Hz:aQ Try.prog ip DL:=psF (mf:=mf_big_Div) (kb:=153000) (own:=[]) (av (aC (ab eI (ab HI (ab Hn (ab HE (ab kl aq)))))) (aB au)) mixed Try.func37 (by kernel_rfl) (by kernel_rfl) fun⟨x0,x1,x2,x3⟩ r hr=>by obtain⟨hc,rfl⟩:=ao hr;exact⟨ahu rfl,Qb _ (ah rfl rfl) (ah rfl rfl) (ah rfl rfl) (ah rfl rfl) (ah rfl rfl) x0 x1 x2 x3 hc⟩
theorem Jv:aQ Try.prog oy yC:=psF (mf:=mf_big_Of) (kb:=150000) (own:=[]) (av (aC (ab kl aq)) (aB au)) mixed Try.func79 (by kernel_rfl) (by kernel_rfl) fun x0 r hr=>by obtain⟨hc,rfl⟩:=ao hr;exact⟨ahu rfl,Ls _ (ah rfl rfl) x0 hc⟩
theorem GX:aQ Try.prog o9 tw:=psF (mf:=mf_big_Int) (kb:=159000) (own:=[]) (av (aC (ab eI aq)) (aB au)) mixed Try.func86 (by kernel_rfl) (by kernel_rfl) fun⟨x0,x1⟩ r hr=>by obtain⟨hc,rfl⟩:=ao hr;exact⟨ahu rfl,J2 _ (ah rfl rfl) x0 x1 hc⟩
theorem LV:aQ Try.prog n7 B8:=psF (mf:=mf_frac_one) (kb:=138000) (own:=[]) (av (aC (ab GX aq)) (aB au)) mixed Try.func62 (by kernel_rfl) (by kernel_rfl) fun⟨x0,x1⟩ r hr=>by obtain⟨hc,rfl⟩:=ao hr;exact⟨ahu rfl,Nm _ (ah rfl rfl) x0 x1 hc⟩
theorem gH:aQ Try.prog aW fN:=psF (mf:=mf_frac_Right) (kb:=116000) (own:=[]) (av (aC (ab eI (ab Js (ab LV aq)))) (aB au)) mixed Try.func33 (by kernel_rfl) (by kernel_rfl) fun⟨x0,x1,x2,x3⟩ r hr=>by obtain⟨hc,rfl⟩:=ao hr;exact⟨ahu rfl,IO _ (ah rfl rfl) (ah rfl rfl) (ah rfl rfl) x0 x1 x2 x3 hc⟩
theorem D0:aQ Try.prog jF w6:=psF (mf:=mf_frac_New) (kb:=149000) (own:=[]) (av (aC (ab eI (ab Ie (ab Js (ab Hz aq))))) (aB au)) mixed Try.func73 (by kernel_rfl) (by kernel_rfl) fun⟨x0,x1,x2,x3⟩ r hr=>by obtain⟨hc,rfl⟩:=ao hr;exact⟨ahu rfl,OI _ (ah rfl rfl) (ah rfl rfl) (ah rfl rfl) (ah rfl rfl) x0 x1 x2 x3 hc⟩
theorem Db:aQ Try.prog ir zX:=psF (mf:=mf_frac_Of) (kb:=130000) (own:=[]) (av (aC (ab Jv (ab D0 aq))) (aB au)) mixed Try.func47 (by kernel_rfl) (by kernel_rfl) fun⟨x0,x1⟩ r hr=>by obtain⟨hc,rfl⟩:=ao hr;exact⟨ahu rfl,P2 _ (ah rfl rfl) (ah rfl rfl) x0 x1 hc⟩
theorem LB:aQ Try.prog nR C3:=psF (mf:=mf_frac_sum) (kb:=139000) (own:=[]) (av (aC (ab wY (ab NW aq))) (aB au)) mixed Try.func39 (by kernel_rfl) (by kernel_rfl) fun⟨x0,x1,x2,x3,x4,x5,x6,x7⟩ r hr=>by obtain⟨hc,rfl⟩:=ao hr;exact⟨ahu rfl,Ov _ (ah rfl rfl) (ah rfl rfl) x0 x1 x2 x3 x4 x5 x6 x7 hc⟩
theorem tj:aQ Try.prog dt qW:=psF (mf:=mf_frac_quotient) (kb:=141000) (own:=[]) (av (aC (ab D0 aq)) (aB au)) mixed Try.func41 (by kernel_rfl) (by kernel_rfl) fun⟨x0,x1,x2,x3,x4,x5⟩ r hr=>by obtain⟨hc,rfl⟩:=ao hr;exact⟨ahu rfl,K9 _ (ah rfl rfl) x0 x1 x2 x3 x4 x5 hc⟩
theorem sI:aQ Try.prog dR mZ:=psF (mf:=mf_frac_Add) (kb:=119000) (own:=[]) (av (aC (ab gH (ab LB (ab wY (ab tj aq))))) (aB au)) mixed Try.func13 (by kernel_rfl) (by kernel_rfl) fun⟨x0,x1,x2,x3,x4,x5,x6,x7⟩ r hr=>by obtain⟨hc,rfl⟩:=ao hr;exact⟨ahu rfl,OD _ (ah rfl rfl) (ah rfl rfl) (ah rfl rfl) (ah rfl rfl) x0 x1 x2 x3 x4 x5 x6 x7 hc⟩
theorem yO:aQ Try.prog dQ mG:=psF (mf:=mf_frac_Sub) (kb:=132000) (own:=[]) (av (aC (ab gH (ab Ie (ab sI aq)))) (aB au)) mixed Try.func48 (by kernel_rfl) (by kernel_rfl) fun⟨x0,x1,x2,x3,x4,x5,x6,x7⟩ r hr=>by obtain⟨hc,rfl⟩:=ao hr;exact⟨ahu rfl,NP _ (ah rfl rfl) (ah rfl rfl) (ah rfl rfl) x0 x1 x2 x3 x4 x5 x6 x7 hc⟩
theorem yG:aQ Try.prog dE ll:=psF (mf:=mf_frac_Mul) (kb:=134000) (own:=[]) (av (aC (ab gH (ab wY (ab tj aq)))) (aB au)) mixed Try.func18 (by kernel_rfl) (by kernel_rfl) fun⟨x0,x1,x2,x3,x4,x5,x6,x7⟩ r hr=>by obtain⟨hc,rfl⟩:=ao hr;exact⟨ahu rfl,OJ _ (ah rfl rfl) (ah rfl rfl) (ah rfl rfl) x0 x1 x2 x3 x4 x5 x6 x7 hc⟩
theorem DQ:aQ Try.prog gv o6:=psF (mf:=mf_frac_Div) (kb:=169000) (own:=[]) (av (aC (ab gH (ab wY (ab tj aq)))) (aB au)) mixed Try.func85 (by kernel_rfl) (by kernel_rfl) fun⟨x0,x1,x2,x3,x4,x5,x6,x7⟩ r hr=>by obtain⟨hc,rfl⟩:=ao hr;exact⟨ahu rfl,Om _ (ah rfl rfl) (ah rfl rfl) (ah rfl rfl) x0 x1 x2 x3 x4 x5 x6 x7 hc⟩
theorem f8:aQ Try.prog a0 dr:=psF (mf:=mf_frac_Compare) (kb:=135000) (own:=[]) (av (aC (ab gH (ab Hz (ab Ca aq)))) (aB au)) mixed Try.func12 (by kernel_rfl) (by kernel_rfl) fun⟨x0,x1,x2,x3,x4,x5,x6,x7⟩ r hr=>by obtain⟨hc,rfl⟩:=ao hr;exact⟨ahu rfl,Cq _ (ah rfl rfl) (ah rfl rfl) (ah rfl rfl) x0 x1 x2 x3 x4 x5 x6 x7 hc⟩
theorem wm:aQ Try.prog ay qy:=psF (mf:=mf_linear_Right_1) (kb:=125000) (own:=[]) (av (aC (ab gH aq)) (aB au)) mixed Try.func111 (by kernel_rfl) (by kernel_rfl) fun⟨x0,x1,x2,x3⟩ r hr=>by obtain⟨hc,rfl⟩:=ao hr;exact⟨ahu rfl,Jp _ (ah rfl rfl) x0 x1 x2 x3 hc⟩
theorem Fm:aQ Try.prog bn uu:=psF (mf:=mf_clear_Fits_1) (kb:=234000) (own:=[]) (av (aC (ab gH aq)) (aB au)) mixed Try.func32 (by kernel_rfl) (by kernel_rfl) fun⟨x0,x1,x2,x3⟩ r hr=>by obtain⟨hc,rfl⟩:=ao hr;exact⟨ahu rfl,Jg _ (ah rfl rfl) x0 x1 x2 x3 hc⟩
theorem FI:aQ Try.prog eS tV:=psF (mf:=mf_slices_IndexFunc_Frac) (kb:=146000) (own:=[]) (av (aC (ab wm (ab Fm aq))) (aB au)) mixed Try.func63 (by kernel_rfl) (by kernel_rfl) fun⟨x0,x1⟩ r hr=>by obtain⟨hc,rfl⟩:=ao hr;exact⟨ahu rfl,IT _ (ah rfl rfl) (ah rfl rfl) x0 x1 hc⟩
theorem uH:aQ Try.prog cu om:=psF (mf:=mf_slices_ContainsFunc_Frac) (kb:=128000) (own:=[]) (av (aC (ab FI aq)) (aB au)) mixed Try.func34 (by kernel_rfl) (by kernel_rfl) fun⟨x0,x1⟩ r hr=>by obtain⟨hc,rfl⟩:=ao hr;exact⟨ahu rfl,GV _ (ah rfl rfl) x0 x1 hc⟩
theorem z6:aQ Try.prog bz pq:=psF (mf:=mf_linear_Right_2) (kb:=127000) (own:=[]) (av (aC (ab wm (ab uH aq))) (aB au)) mixed Try.func113 (by kernel_rfl) (by kernel_rfl) fun⟨x0,x1,x2,x3,x4,x5⟩ r hr=>by obtain⟨hc,rfl⟩:=ao hr;exact⟨ahu rfl,CG _ (ah rfl rfl) (ah rfl rfl) x0 x1 x2 x3 x4 x5 hc⟩
theorem IM:aQ Try.prog fy xe:=psF (mf:=mf_slices_IndexFunc_Row) (kb:=145000) (own:=[]) (av (aC (ab z6 aq)) (aB au)) mixed Try.func116 (by kernel_rfl) (by kernel_rfl) fun⟨x0,x1⟩ r hr=>by obtain⟨hc,rfl⟩:=ao hr;exact⟨ahu rfl,L3 _ (ah rfl rfl) x0 x1 hc⟩
theorem Gs:aQ Try.prog dX tI:=psF (mf:=mf_slices_ContainsFunc_Row) (kb:=126000) (own:=[]) (av (aC (ab IM aq)) (aB au)) mixed Try.func112 (by kernel_rfl) (by kernel_rfl) fun⟨x0,x1⟩ r hr=>by obtain⟨hc,rfl⟩:=ao hr;exact⟨ahu rfl,H5 _ (ah rfl rfl) x0 x1 hc⟩
theorem zq:aQ Try.prog jM pz:=psF (mf:=mf_linear_Right) (kb:=108000) (own:=[]) (av (aC (ab Gs aq)) (aB au)) mixed Try.func104 (by kernel_rfl) (by kernel_rfl) fun⟨x0,x1⟩ r hr=>by obtain⟨hc,rfl⟩:=ao hr;exact⟨ahu rfl,B9 _ (ah rfl rfl) x0 x1 hc⟩
theorem K4:iD Try.prog bT (mkU mE):=Fs (mf:=mf_linear_matrix_note) (kb:=168000) (own:=[]) (av (aC aq) (aB au)) mixed Try.func118 (by kernel_rfl) (by kernel_rfl) Eb fun args mem r k g i d h=>by
 obtain⟨h1,h2,h3,h4,h5⟩:=M9 _ args mem r k g i d h;exact⟨h1,h2,h3,h4,h5⟩
theorem LN:aQ Try.prog gz xw:=psF (mf:=mf_linear_zero) (kb:=167000) (own:=[]) (av (aC aq) (aB au)) mixed Try.func117 (by kernel_rfl) (by kernel_rfl) fun⟨x0,x1,x2,x3⟩ r hr=>by obtain rfl:=Option.some.inj hr;exact⟨ahu rfl,w_zero _  x0 x1 x2 x3⟩
theorem Kl:iD Try.prog fF (mkQ pO):=rH (mf:=mf_linear_matrix_pivot) (kb:=148000) (own:=[3000106,3000165,3000169]) (av (aC (ab LN (ab DQ (ab yO (ab yG aq))))) (aB (eJ K4 au))) mixed Try.func115 (by kernel_rfl) (by kernel_rfl) fun args mem R h=>by
 obtain⟨a,rfl,⟨h1,h2,h3,h4,h5,h6,h7⟩,rfl⟩:=AP h;exact⟨ahu rfl,LH _ (ah rfl rfl) (nq rfl rfl) (ah rfl rfl) (ah rfl rfl) (ah rfl rfl) a.go a.N a.rows a.r a.c mem h1 h2 h3 h4 h5 h6 h7⟩
theorem E0:aQ Try.prog eN pZ:=psF (mf:=mf_slices_Clone_Frac) (kb:=147000) (own:=[5]) (av (aC aq) (aB au)) mixed Try.func114 (by kernel_rfl) (by kernel_rfl) fun x0 r hr=>by obtain⟨hc,rfl⟩:=ao hr;exact⟨ahu rfl,JV _  x0 hc⟩
theorem LD:aQ Try.prog gB xR:=psF (mf:=mf_linear_eliminated) (kb:=129000) (own:=[29,34]) (av (aC (ab E0 aq)) (aB (eJ Kl au))) mixed Try.func105 (by kernel_rfl) (by kernel_rfl) fun⟨x0,x1,x2⟩ r hr=>by obtain⟨hc,rfl⟩:=ao hr;exact⟨ahu rfl,Nc _ (ah rfl rfl) (nq rfl rfl) x0 x1 x2 hc⟩
theorem AU:aQ Try.prog jO o8:=psF (mf:=mf_linear_Solve) (kb:=109000) (own:=[]) (av (aC (ab zq (ab LD aq))) (aB au)) mixed Try.func98 (by kernel_rfl) (by kernel_rfl) fun⟨x0,x1⟩ r hr=>by obtain⟨hc,rfl⟩:=ao hr;exact⟨ahu rfl,CN _ (ah rfl rfl) (ah rfl rfl) x0 x1 hc⟩
theorem JE:aQ Try.prog iq xB:=psF (mf:=mf_math_bits_Mul64) (kb:=171000) (own:=[]) (av (aC aq) (aB au)) mixed Try.func110 (by kernel_rfl) (by kernel_rfl) fun x0 r hr=>by obtain⟨hc,rfl⟩:=ao hr;exact⟨ahu rfl,Lo _  x0 hc⟩
theorem Lg:aQ Try.prog jo B6:=psF (mf:=mf_math_bits_Mul) (kb:=151000) (own:=[]) (av (aC (ab JE aq)) (aB au)) mixed Try.func103 (by kernel_rfl) (by kernel_rfl) fun x0 r hr=>by obtain⟨hc,rfl⟩:=ao hr;exact⟨ahu rfl,Ok _ (ah rfl rfl) x0 hc⟩
theorem CV:aQ Try.prog fT rR:=psF (mf:=mf_slices_Repeat_Frac) (kb:=131000) (own:=[]) (av (aC (ab Lg aq)) (aB au)) mixed Try.func97 (by kernel_rfl) (by kernel_rfl) fun⟨x0,x1,x2,x3,x4⟩ r hr=>by obtain⟨hc,rfl⟩:=ao hr;exact⟨ahu rfl,E6 _ (ah rfl rfl) x0 x1 x2 x3 x4 hc⟩
theorem nW:aQ Try.prog cp kV:=psF (mf:=mf_ref04_trim) (kb:=183000) (own:=[18]) (av (aC aq) (aB au)) mixed Try.func102 (by kernel_rfl) (by kernel_rfl) fun x0 r hr=>by obtain⟨hc,rfl⟩:=ao hr;exact⟨ahu rfl,LI _  x0 hc⟩
theorem oD:aQ Try.prog bX mb:=psF (mf:=mf_ref04_digit) (kb:=187000) (own:=[]) (av (aC aq) (aB au)) mixed Try.func108 (by kernel_rfl) (by kernel_rfl) fun⟨x0,x1⟩ r hr=>by obtain⟨hc,rfl⟩:=ao hr;exact⟨ahu rfl,JX _  x0 x1 hc⟩
theorem HR:aQ Try.prog ju sL:=psF (mf:=mf_ref04_less) (kb:=185000) (own:=[]) (av (aC (ab oD aq)) (aB au)) mixed Try.func106 (by kernel_rfl) (by kernel_rfl) fun⟨x0,x1⟩ r hr=>by obtain⟨hc,rfl⟩:=ao hr;exact⟨ahu rfl,Ln _ (ah rfl rfl) x0 x1 hc⟩
theorem HZ:aQ Try.prog lF yq:=psF (mf:=mf_ref04_plus) (kb:=181000) (own:=[]) (av (aC (ab oD (ab nW aq))) (aB au)) mixed Try.func100 (by kernel_rfl) (by kernel_rfl) fun⟨x0,x1⟩ r hr=>by obtain⟨hc,rfl⟩:=ao hr;exact⟨ahu rfl,KU _ (ah rfl rfl) (ah rfl rfl) x0 x1 hc⟩
theorem wV:aQ Try.prog gq qE:=psF (mf:=mf_ref04_minus) (kb:=182000) (own:=[]) (av (aC (ab oD (ab nW aq))) (aB au)) mixed Try.func101 (by kernel_rfl) (by kernel_rfl) fun⟨x0,x1⟩ r hr=>by obtain⟨hc,rfl⟩:=ao hr;exact⟨ahu rfl,Hu _ (ah rfl rfl) (ah rfl rfl) x0 x1 hc⟩
theorem FP:aQ Try.prog gy qM:=psF (mf:=mf_ref04_times) (kb:=186000) (own:=[]) (av (aC (ab oD (ab nW aq))) (aB au)) mixed Try.func107 (by kernel_rfl) (by kernel_rfl) fun⟨x0,x1⟩ r hr=>by obtain⟨hc,rfl⟩:=ao hr;exact⟨ahu rfl,I3 _ (ah rfl rfl) (ah rfl rfl) x0 x1 hc⟩
theorem zn:aQ Try.prog ia sO:=psF (mf:=mf_ref04_over) (kb:=180000) (own:=[26]) (av (aC (ab nW (ab FP (ab HR (ab wV aq))))) (aB au)) mixed Try.func99 (by kernel_rfl) (by kernel_rfl) fun⟨x0,x1⟩ r hr=>by obtain⟨hc,rfl⟩:=ao hr;exact⟨ahu rfl,L8 _ (ah rfl rfl) (ah rfl rfl) (ah rfl rfl) (ah rfl rfl) x0 x1 hc⟩
theorem qm:aQ Try.prog cB oJ:=psF (mf:=mf_ref04_made) (kb:=166000) (own:=[]) (av (aC (ab nW aq)) (aB au)) mixed Try.func96 (by kernel_rfl) (by kernel_rfl) fun⟨x0,x1⟩ r hr=>by obtain⟨hc,rfl⟩:=ao hr;exact⟨ahu rfl,Mt _ (ah rfl rfl) x0 x1 hc⟩
theorem oq:aQ Try.prog ck l8:=psF (mf:=mf_ref04_Right) (kb:=162000) (own:=[]) (av (aC aq) (aB au)) mixed Try.func92 (by kernel_rfl) (by kernel_rfl) fun⟨x0,x1⟩ r hr=>by obtain⟨hc,rfl⟩:=ao hr;exact⟨ahu rfl,JY _  x0 x1 hc⟩
theorem LU:aQ Try.prog j8 Cd:=psF (mf:=mf_ref04_Neg) (kb:=163000) (own:=[]) (av (aC (ab oq (ab qm aq))) (aB au)) mixed Try.func93 (by kernel_rfl) (by kernel_rfl) fun⟨x0,x1⟩ r hr=>by obtain⟨hc,rfl⟩:=ao hr;exact⟨ahu rfl,NA _ (ah rfl rfl) (ah rfl rfl) x0 x1 hc⟩
theorem OB:aQ Try.prog ld In:=psF (mf:=mf_ref04_Of) (kb:=144000) (own:=[]) (av (aC (ab qm aq)) (aB au)) mixed Try.func75 (by kernel_rfl) (by kernel_rfl) fun x0 r hr=>by obtain⟨hc,rfl⟩:=ao hr;exact⟨ahu rfl,Qy _ (ah rfl rfl) x0 hc⟩
theorem K6:aQ Try.prog mX Dn:=psF (mf:=mf_ref04_Gcd) (kb:=164000) (own:=[]) (av (aC (ab oq (ab zn (ab qm aq)))) (aB au)) mixed Try.func94 (by kernel_rfl) (by kernel_rfl) fun⟨x0,x1,x2,x3⟩ r hr=>by obtain⟨hc,rfl⟩:=ao hr;exact⟨ahu rfl,On _ (ah rfl rfl) (ah rfl rfl) (ah rfl rfl) x0 x1 x2 x3 hc⟩
theorem L6:aQ Try.prog j0 CX:=psF (mf:=mf_ref04_Div) (kb:=165000) (own:=[]) (av (aC (ab oq (ab zn (ab HZ (ab wV (ab qm aq)))))) (aB au)) mixed Try.func95 (by kernel_rfl) (by kernel_rfl) fun⟨x0,x1,x2,x3⟩ r hr=>by obtain⟨hc,rfl⟩:=ao hr;exact⟨ahu rfl,Od _ (ah rfl rfl) (ah rfl rfl) (ah rfl rfl) (ah rfl rfl) (ah rfl rfl) x0 x1 x2 x3 hc⟩
theorem L2:aQ Try.prog mU Co:=psF (mf:=mf_ref05_New) (kb:=143000) (own:=[]) (av (aC (ab oq (ab LU (ab K6 (ab L6 aq))))) (aB au)) mixed Try.func74 (by kernel_rfl) (by kernel_rfl) fun⟨x0,x1,x2,x3⟩ r hr=>by obtain⟨hc,rfl⟩:=ao hr;exact⟨ahu rfl,N0 _ (ah rfl rfl) (ah rfl rfl) (ah rfl rfl) (ah rfl rfl) x0 x1 x2 x3 hc⟩
theorem Of:aQ Try.prog nE JF:=psF (mf:=mf_ref05_Of) (kb:=124000) (own:=[]) (av (aC (ab OB (ab L2 aq))) (aB au)) mixed Try.func42 (by kernel_rfl) (by kernel_rfl) fun⟨x0,x1⟩ r hr=>by obtain⟨hc,rfl⟩:=ao hr;exact⟨ahu rfl,Re _ (ah rfl rfl) (ah rfl rfl) x0 x1 hc⟩
theorem KR:aQ Try.prog na DG:=psF (mf:=mf_ref05_Few) (kb:=115000) (own:=[]) (av (aC aq) (aB au)) mixed Try.func24 (by kernel_rfl) (by kernel_rfl) fun⟨x0,x1,x2,x3,x4⟩ r hr=>by obtain rfl:=Option.some.inj hr;exact⟨ahu rfl,N5 _  x0 x1 x2 x3 x4⟩
theorem ya:aQ Try.prog iP ny:=psF (mf:=mf_ref06_FewFracs) (kb:=107000) (own:=[]) (av (aC (ab KR aq)) (aB au)) mixed Try.func9 (by kernel_rfl) (by kernel_rfl) fun⟨x0,x1,x2⟩ r hr=>by obtain⟨hc,rfl⟩:=ao hr;exact⟨ahu rfl,zK _ (ah rfl rfl) x0 x1 x2 hc⟩
theorem jn:aQ Try.prog bf fj:=psF (mf:=mf_clear_whole) (kb:=230000) (own:=[]) (av (aC (ab Db aq)) (aB au)) mixed Try.func28 (by kernel_rfl) (by kernel_rfl) fun x0 r hr=>by obtain⟨hc,rfl⟩:=ao hr;exact⟨ahu rfl,Jc _ (ah rfl rfl) x0 hc⟩
theorem Hb:aQ Try.prog cZ n0:=psF (mf:=mf_rank_whole) (kb:=241000) (own:=[]) (av (aC (ab Db aq)) (aB au)) mixed Try.func51 (by kernel_rfl) (by kernel_rfl) fun x0 r hr=>by obtain⟨hc,rfl⟩:=ao hr;exact⟨ahu rfl,JA _ (ah rfl rfl) x0 hc⟩
theorem GF:aQ Try.prog lk pW:=psF (mf:=mf_law20_of) (kb:=219000) (own:=[]) (av (aC (ab Of aq)) (aB au)) mixed Try.func14 (by kernel_rfl) (by kernel_rfl) fun x0 r hr=>by obtain⟨hc,rfl⟩:=ao hr;exact⟨ahu rfl,Iu _ (ah rfl rfl) x0 hc⟩
theorem Le:aQ Try.prog mS Cb:=psF (mf:=mf_ref20_Few) (kb:=216000) (own:=[]) (av (aC aq) (aB au)) mixed Try.func8 (by kernel_rfl) (by kernel_rfl) fun⟨x0,x1⟩ r hr=>by obtain rfl:=Option.some.inj hr;exact⟨ahu rfl,Oi _  x0 x1⟩
theorem IG:aQ Try.prog bm EB:=psF (mf:=mf_clear_right_1) (kb:=243000) (own:=[]) (av (aC aq) (aB au)) mixed Try.func53 (by kernel_rfl) (by kernel_rfl) fun⟨x0,x1,x2⟩ r hr=>by obtain rfl:=Option.some.inj hr;exact⟨ahu rfl,P9 _  x0 x1 x2⟩
theorem OC:aQ Try.prog fm H3:=psF (mf:=mf_clear_right_2) (kb:=244000) (own:=[]) (av (aC (ab IG aq)) (aB au)) mixed Try.func54 (by kernel_rfl) (by kernel_rfl) fun x0 r hr=>by obtain rfl:=Option.some.inj hr;exact⟨ahu rfl,Rw _ (ah rfl rfl) x0⟩
theorem NH:aQ Try.prog fe JW:=psF (mf:=mf_clear_right_3) (kb:=245000) (own:=[]) (av (aC (ab IG aq)) (aB au)) mixed Try.func55 (by kernel_rfl) (by kernel_rfl) fun⟨x0,x1,x2,x3,x4⟩ r hr=>by obtain⟨hc,rfl⟩:=ao hr;exact⟨ahu rfl,QD _ (ah rfl rfl) x0 x1 x2 x3 x4 hc⟩
theorem BW:aQ Try.prog fp rm:=psF (mf:=mf_clear_Solve_1) (kb:=232000) (own:=[]) (av (aC (ab jn (ab f8 aq))) (aB au)) mixed Try.func30 (by kernel_rfl) (by kernel_rfl) fun⟨x0,x1,x2⟩ r hr=>by obtain⟨hc,rfl⟩:=ao hr;exact⟨ahu rfl,Fc _ (ah rfl rfl) (ah rfl rfl) x0 x1 x2 hc⟩
theorem tT:aQ Try.prog fi ou:=psF (mf:=mf_rescue_amount) (kb:=251000) (own:=[]) (av (aC aq) (aB au)) mixed Try.func77 (by kernel_rfl) (by kernel_rfl) fun x0 r hr=>by obtain rfl:=Option.some.inj hr;exact⟨ahu rfl,Fn _  x0⟩
theorem IB:aQ Try.prog ii yL:=psF (mf:=mf_rescue_day_1) (kb:=250000) (own:=[]) (av (aC (ab tT aq)) (aB au)) mixed Try.func76 (by kernel_rfl) (by kernel_rfl) fun x0 r hr=>by obtain rfl:=Option.some.inj hr;exact⟨ahu rfl,Md _ (ah rfl rfl) x0⟩
theorem Bp:aQ Try.prog bY ol:=psF (mf:=mf_slices_IndexFunc_int) (kb:=231000) (own:=[]) (av (aC (ab OC (ab IB (ab BW aq)))) (aB au)) mixed Try.func29 (by kernel_rfl) (by kernel_rfl) fun⟨x0,x1⟩ r hr=>by obtain⟨hc,rfl⟩:=ao hr;exact⟨ahu rfl,L1 _ (ah rfl rfl) (ah rfl rfl) (ah rfl rfl) x0 x1 hc⟩
theorem FX:aQ Try.prog dZ uJ:=psF (mf:=mf_slices_ContainsFunc_int) (kb:=246000) (own:=[]) (av (aC (ab Bp aq)) (aB au)) mixed Try.func56 (by kernel_rfl) (by kernel_rfl) fun⟨x0,x1⟩ r hr=>by obtain⟨hc,rfl⟩:=ao hr;exact⟨ahu rfl,IR _ (ah rfl rfl) x0 x1 hc⟩
theorem CC:aQ Try.prog fq rE:=psF (mf:=mf_rank_within) (kb:=253000) (own:=[]) (av (aC aq) (aB au)) mixed Try.func81 (by kernel_rfl) (by kernel_rfl) fun⟨x0,x1,x2⟩ r hr=>by obtain rfl:=Option.some.inj hr;exact⟨ahu rfl,Ge _  x0 x1 x2⟩
theorem GK:aQ Try.prog lm sX:=psF (mf:=mf_rank_right) (kb:=240000) (own:=[]) (av (aC (ab CC aq)) (aB au)) mixed Try.func50 (by kernel_rfl) (by kernel_rfl) fun x0 r hr=>by obtain⟨hc,rfl⟩:=ao hr;exact⟨ahu rfl,Je _ (ah rfl rfl) x0 hc⟩
theorem GS:aQ Try.prog lu t8:=psF (mf:=mf_rank_Split) (kb:=249000) (own:=[]) (av (aC (ab gH (ab f8 (ab Hb (ab GK (ab yG (ab DQ (ab yO aq)))))))) (aB au)) mixed Try.func59 (by kernel_rfl) (by kernel_rfl) fun⟨x0,x1⟩ r hr=>by obtain⟨hc,rfl⟩:=ao hr;exact⟨ahu rfl,IW _ (ah rfl rfl) (ah rfl rfl) (ah rfl rfl) (ah rfl rfl) (ah rfl rfl) (ah rfl rfl) (ah rfl rfl) x0 x1 hc⟩
theorem Iz:aQ Try.prog ij xj:=psF (mf:=mf_rescue_day_2) (kb:=252000) (own:=[]) (av (aC (ab tT aq)) (aB au)) mixed Try.func78 (by kernel_rfl) (by kernel_rfl) fun⟨x0,x1,x2,x3,x4⟩ r hr=>by obtain⟨hc,rfl⟩:=ao hr;exact⟨ahu rfl,Lw _ (ah rfl rfl) x0 x1 x2 x3 x4 hc⟩
theorem C5:aQ Try.prog eG rf:=psF (mf:=mf_slices_IndexFunc_Claim) (kb:=254000) (own:=[]) (av (aC (ab NH (ab Iz aq))) (aB au)) mixed Try.func82 (by kernel_rfl) (by kernel_rfl) fun⟨x0,x1⟩ r hr=>by obtain⟨hc,rfl⟩:=ao hr;exact⟨ahu rfl,Gb _ (ah rfl rfl) (ah rfl rfl) x0 x1 hc⟩
theorem Ar:aQ Try.prog dK py:=psF (mf:=mf_slices_ContainsFunc_Claim) (kb:=247000) (own:=[]) (av (aC (ab C5 aq)) (aB au)) mixed Try.func57 (by kernel_rfl) (by kernel_rfl) fun⟨x0,x1⟩ r hr=>by obtain⟨hc,rfl⟩:=ao hr;exact⟨ahu rfl,Cy _ (ah rfl rfl) x0 x1 hc⟩
theorem wd:aQ Try.prog gj qz:=psF (mf:=mf_clear_right) (kb:=227000) (own:=[]) (av (aC (ab FX (ab Ar aq))) (aB au)) mixed Try.func25 (by kernel_rfl) (by kernel_rfl) fun⟨x0,x1⟩ r hr=>by obtain⟨hc,rfl⟩:=ao hr;exact⟨ahu rfl,Hk _ (ah rfl rfl) (ah rfl rfl) x0 x1 hc⟩
theorem Ba:aQ Try.prog eL qx:=psF (mf:=mf_clear_payments) (kb:=233000) (own:=[]) (av (aC (ab GS aq)) (aB au)) mixed Try.func31 (by kernel_rfl) (by kernel_rfl) fun⟨x0,x1⟩ r hr=>by obtain⟨hc,rfl⟩:=ao hr;exact⟨ahu rfl,K0 _ (ah rfl rfl) x0 x1 hc⟩
theorem Dd:iD Try.prog dN (mkN oC):=pa (mf:=mf_clear_debtor_shares) (kb:=255000) (own:=[17]) (av (aC (ab jn (ab CV (ab Db (ab sI aq))))) (aB au)) mixed Try.func83 (by kernel_rfl) (by kernel_rfl) (fun j=>j / 1000=255) fun args mem d h=>by
 obtain⟨a,⟨rfl,ha⟩,rfl⟩:=Dq h;exact⟨ahu rfl,ha.no,Fl _ (ah rfl rfl) (ah rfl rfl) (ah rfl rfl) (ah rfl rfl) a.1 a.2 mem ha⟩
theorem Gl:iD Try.prog kw (mkN qD):=pa (mf:=mf_clear_solve) (kb:=256000) (own:=[]) (av (aC (ab jn (ab yO (ab AU aq)))) (aB au)) mixed Try.func84 (by kernel_rfl) (by kernel_rfl) (fun j=>j / 1000=256) fun args mem d h=>by
 obtain⟨a,⟨rfl,ha⟩,rfl⟩:=Dq h;exact⟨ahu rfl,ha.no,Ki _ (ah rfl rfl) (ah rfl rfl) (ah rfl rfl) a mem ha⟩
theorem I4:iD Try.prog lB (mkN xL):=pa (mf:=mf_clear_list) (kb:=248000) (own:=[]) (av (aC (ab jn (ab yG (ab sI aq)))) (aB (eJ Dd (eJ Gl au)))) mixed Try.func58 (by kernel_rfl) (by kernel_rfl) (fun j=>j / 1000=248) fun args mem d h=>by
 obtain⟨a,⟨rfl,ha⟩,rfl⟩:=Dq h;exact⟨ahu rfl,ha.n1,Lj _ (ah rfl rfl) (nq rfl rfl) (nq rfl rfl) (ah rfl rfl) (ah rfl rfl) a mem ha⟩
theorem FG:iD Try.prog iX (mkQ nN):=rH (mf:=mf_clear_round) (kb:=229000) (own:=[]) (av (aC (ab jn (ab f8 aq))) (aB (eJ I4 au))) mixed Try.func27 (by kernel_rfl) (by kernel_rfl) fun args mem R h=>by
 obtain⟨a,⟨rfl,ha⟩,rfl⟩:=C1 h;exact⟨ahu rfl,Jq _ (nq rfl rfl) (ah rfl rfl) (ah rfl rfl) a mem ha⟩
theorem H6:iD Try.prog lG (mkQ xC):=rH (mf:=mf_clear_open) (kb:=228000) (own:=[22]) (av (aC aq) (aB au)) mixed Try.func26 (by kernel_rfl) (by kernel_rfl) fun args mem R h=>by
 obtain⟨a,⟨rfl,ha⟩,rfl⟩:=C1 h;exact⟨ahu rfl,Lv _  a.1 a.2 mem ha⟩
theorem ri:aQ Try.prog ei mg:=psF (mf:=mf_clear_Solve) (kb:=217000) (own:=[]) (av (aC (ab wd (ab jn (ab f8 (ab Bp (ab Ba aq)))))) (aB (eJ H6 (eJ FG au)))) mixed Try.func10 (by kernel_rfl) (by kernel_rfl) fun⟨x0,x1⟩ r hr=>by obtain⟨hc,rfl⟩:=ao hr;exact⟨ahu rfl,H7 _ (ah rfl rfl) (nq rfl rfl) (nq rfl rfl) (ah rfl rfl) (ah rfl rfl) (ah rfl rfl) (ah rfl rfl) x0 x1 hc⟩
theorem JJ:aQ Try.prog dj yn:=psF (mf:=mf_clear_Fits_2) (kb:=236000) (own:=[]) (av (aC (ab f8 aq)) (aB au)) mixed Try.func36 (by kernel_rfl) (by kernel_rfl) fun⟨x0,x1,x2,x3,x4,x5,x6,x7⟩ r hr=>by obtain⟨hc,rfl⟩:=ao hr;exact⟨ahu rfl,LT _ (ah rfl rfl) x0 x1 x2 x3 x4 x5 x6 x7 hc⟩
theorem GE:aQ Try.prog eZ u5:=psF (mf:=mf_slices_EqualFunc_Frac) (kb:=235000) (own:=[]) (av (aC (ab JJ aq)) (aB au)) mixed Try.func35 (by kernel_rfl) (by kernel_rfl) fun⟨x0,x1⟩ r hr=>by obtain⟨hc,rfl⟩:=ao hr;exact⟨ahu rfl,I8 _ (ah rfl rfl) x0 x1 hc⟩
theorem zd:aQ Try.prog eR pI:=psF (mf:=mf_clear_Fits) (kb:=218000) (own:=[]) (av (aC (ab wd (ab uH (ab Ba (ab jn (ab sI (ab GE aq))))))) (aB au)) mixed Try.func11 (by kernel_rfl) (by kernel_rfl) fun⟨x0,x1,x2⟩ r hr=>by obtain⟨hc,rfl⟩:=ao hr;exact⟨ahu rfl,Ld _ (ah rfl rfl) (ah rfl rfl) (ah rfl rfl) (ah rfl rfl) (ah rfl rfl) (ah rfl rfl) x0 x1 x2 hc⟩
theorem ua:aQ Try.prog gU lL:=psF (mf:=mf_ref20_SameRounds) (kb:=242000) (own:=[]) (av (aC aq) (aB au)) mixed Try.func52 (by kernel_rfl) (by kernel_rfl) fun⟨x0,x1⟩ r hr=>by obtain⟨hc,rfl⟩:=ao hr;exact⟨ahu rfl,vw _  x0 x1 hc⟩
theorem Mv:aQ Try.prog gL CL:=psF (mf:=mf_law20_has) (kb:=226000) (own:=[]) (av (aC (ab ri (ab ua (ab GF (ab f8 (ab gH (ab zd aq))))))) (aB au)) mixed Try.func23 (by kernel_rfl) (by kernel_rfl) fun⟨x0,x1,x2,x3,x4⟩ r hr=>by obtain⟨hc,rfl⟩:=ao hr;exact⟨ahu rfl,N8 _ (ah rfl rfl) (ah rfl rfl) (ah rfl rfl) (ah rfl rfl) (ah rfl rfl) (ah rfl rfl) x0 x1 x2 x3 x4 hc⟩
theorem Ft:aQ Try.prog kG tl:=psF (mf:=mf_law20_small) (kb:=215000) (own:=[19]) (av (aC (ab Mv (ab ri aq))) (aB au)) mixed Try.func7 (by kernel_rfl) (by kernel_rfl) fun _ r hr=>by obtain rfl:=Option.some.inj hr;exact⟨ahu rfl,Jh _ (ah rfl rfl) (ah rfl rfl) ⟩
theorem xG:aQ Try.prog mP nJ:=psF (mf:=mf_law20_ClearGreatest) (kb:=211000) (own:=[]) (av (aC (ab Ft (ab Le (ab ya (ab ri (ab zd (ab f8 aq))))))) (aB au)) mixed Try.func3 (by kernel_rfl) (by kernel_rfl) fun⟨x0,x1,x2⟩ r hr=>by obtain rfl:=Option.some.inj hr;exact⟨ahu rfl,AI _ (ah rfl rfl) (ah rfl rfl) (ah rfl rfl) (ah rfl rfl) (ah rfl rfl) (ah rfl rfl) x0 x1 x2⟩
end Go.Mini
