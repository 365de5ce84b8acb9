/- A part of the proof. -/
import Derived.Test.YtdbkjjoedjfmpaaGreatM12
import Derived.Test.YtdbkjjoedjfmpaaGreatM11
set_option linter.unusedSimpArgs false
set_option linter.unusedVariables false
open List renaming range_succ → agD, filter_append → agE, filter_cons_of_pos → agF, filter_nil → agG, filter_cons_of_neg → agH, length_filter_le → agJ, range → agN, append_nil → agQ, length_append → agR, getElem?_eq_getElem → agT, getD_eq_getElem?_getD → agU, map_cons → agV, map_nil → agW, length_map → agX, getElem?_map → agY, map_append → agZ, take → ag2, drop → ag3, getElem?_cons_succ → ag9, getElem?_append_left → aha, getElem?_append_right → ahb, set_cons_succ → ahc, set_append_left → ahd, set_append_right → ahe, mem_of_getElem? → ahg, take_of_length_le → ahh
open Nat renaming le_trans → agI, le_refl → agK, mul_one → agO, reduceEqDiff → agP, add_comm → ag8
open Bool renaming false_eq_true → agL, not_true → agS, false_and → ag0, or_false → ag1, and_false → ag4, true_and → ag5, not_false → ag6, or_true → ag7, and_eq_true → ahj
open Decidable renaming em → agM
open Int renaming add_zero → ahf
open Rat renaming intCast_add → ahi
namespace Go.Mini
open Go
set_option maxRecDepth 10000
set_option maxHeartbeats 4000000
structure LsQ (a:DebA) (mem:Mem):Prop where
 at_:a.At mem
 n1:NoK 248 mem
 n2:NoK 255 mem
 n3:NoK 256 mem
 fine:a.Fine
 pay:PayG (ab a.cash a.cs) (fOf a.fl) (pOf a.P)
open Classical in
theorem sM (P:Nat→Prop) (n:Nat):payers P (n+1)=payers P n++(if P n then [n] else []):=by
 unfold payers;rw[agD,agE]
 by_cases h:P n
 ·rw[if_pos h,agF (by simpa using h),agG]
 ·rw[if_neg h,agH (by simpa using h),agG]
theorem uo (P:Nat→Prop) (n:Nat):(payers P n).length≤n:=by
 unfold payers;exact agI (agJ _ _) (by rw[List.length_range];exact agK _)
noncomputable def DebA.W (a:DebA) (k i:Nat):Rat:=(ab a.cash a.cs).W (fOf a.fl) k i
theorem Fw (n:Nat) (W:Nat→Nat→Rat) (k:Nat):(shL n W k).length=1:=rfl
theorem LZ (n:Nat) (W:Nat→Nat→Rat) (k:Nat):((shL n W k).map MV.dat).all MV.one=true:=rfl
def stI (a:DebA) (i j:Nat):Int:=(if j<i then a.cash.getD j 0 else 0)+bt (ji a.cs (fOf a.fl) i 0 0) (toI j)
theorem SM (T:Tab) (sh:T d7=mkN oU) {K:bK→St→Prop} {kk:List Todo} (a:DebA) (mem0:Mem) (ha:LsQ a mem0) (v0 v4 v30:MV) (G g6 g7:Nat) (tm:Nat→MV) (m:Mem)
  (e0:tm 0=v0) (e4:tm 4 = .dat (.int .i64 a.cash.length)) (e5:tm 5 = .ref 248029 G 1 0 a.cash.length) (e6:tm 6 = .ref 248094 g6 1 0 0) (e7:tm 7 = .ref 248098 g7 1 0 0) (e30:tm 30 = .ref 228023 a.g 1 0 a.cash.length) (e31:tm 31 = .dat (.int .i64 a.cash.length)) (e32:tm 32 = .dat (.int .i64 0))
  (m29:m 248029=some (G,(fL a.cash.length fun j=>stI a 0 j).map iC)) (m94:m 248094=some (g6,[])) (m98:m 248098=some (g7,[])) (hfr:FrK 248 mem0 m)
  (hK:∀ tm' m' g6' g7',tm' 0=v0→tm' 4 = .dat (.int .i64 a.cash.length)→tm' 5 = .ref 248029 G 1 0 a.cash.length→tm' 6 = .ref 248094 g6' 1 0 a.p.length→tm' 7 = .ref 248098 g7' 1 0 a.p.length→m' 248029=some (G,(fL a.cash.length fun j=>stI a a.cash.length j).map iC)→m' 248094=some (g6',aC gU a.p)→m' 248098=some (g7',aC (shL a.cash.length a.W) a.p)→FrK 248 mem0 m'→kont T K kk (.exit 0) ⟨tm',m'⟩) :
  wp T (mf_clear_list.body.sub [1,1,1,1,1,0,1,0,0,0]) (kont T K kk) ⟨tm,m⟩:=by
 have ha':=ha;obtain⟨hat,n1,n2,n3,hfine,hpay⟩:=ha;have hfe:=fun i=>DebA.f_eq hat hfine (i:=i)
 obtain⟨hs,h10⟩:=hfine;have hn:=hs.n5;simp only[mf_clear_list,MCode.sub];refine ae [0,4,5,30,31] [] (fun ((i,g6,g7):Nat × Nat × Nat) tm m=>i≤a.cash.length∧tm 32 = .dat (.int .i64 i)∧tm 6 = .ref 248094 g6 1 0 (payers (pOf a.P) i).length∧tm 7 = .ref 248098 g7 1 0 (payers (pOf a.P) i).length∧m 248029=some (G,(fL a.cash.length fun j=>stI a i j).map iC)∧m 248094=some (g6,aC gU (payers (pOf a.P) i))∧m 248098=some (g7,aC (shL a.cash.length a.W) (payers (pOf a.P) i))∧FrK 248 mem0 m) (fun (i,_)=>a.cash.length-i) (0,g6,g7) (by refine⟨by omega,e32,e6,e7,m29,m94,m98,hfr⟩) ?_
 intro vs ms hvs hms;simp only[go_sem,go_sem_proc,agL,e0,e4,e5,e30,e31] at hvs hms;subst hvs hms;clear e0 e4 e5 e6 e7 e30 e31 e32 m29 m94 m98 hfr tm m;rintro⟨i,g6,g7⟩ tm m hk-⟨hin,e32,e6,e7,m29,m94,m98,hfr⟩;simp only[go_sem,go_sem_proc,agL,List.cons.injEq] at hk;obtain⟨e0,e4,e5,e30,e31⟩:=hk;rcases agM (i<a.cash.length) with hi | hge
 ·have d1:decide ((i:Int)<(a.cash.length:Int))=true:=decide_eq_true (by omega)
  have w3:IntKind.i64.wrap ((i:Int)+1)=((i+1:Nat):Int):=by rw[an _ (by omega) (by omega)];omega
  obtain⟨hfi,hf10⟩:=hfe i hi;have hrow:=(hfr.at 228023 (by omega)).trans hat.row;have hb0:=hat.blk i hi;have hblk:=(hfr.at (228500+i) (by omega)).trans hb0;have hri:=nE (cX (fun i=>MV.ptr (228500+i) (a.gs.getD i 0) 0) hi);have hrl:(fL a.cash.length fun i=>MV.ptr (228500+i) (a.gs.getD i 0) 0).length=a.cash.length:=bU _ _;have hok:=a.deb_ok i;have hlen:=jS hok;have qf:=z7 hok;have qp:=NZ hok;have qca:=Lc (x:=a.deb i);rw[show (a.deb i).f=(fOf a.fl i:Int) from hfi] at qf;rw[show (a.deb i).p=a.P.getD i false from rfl] at qp;rw[show (a.deb i).cash=a.cash.getD i 0 from rfl] at qca;have hcash:=hs.cash i;have hsp:=xk a.cs (fOf a.fl) (n:=a.cash.length) (i:=i) (k:=0) (t:=0) hi
  have hsI0:0≤bt (ji a.cs (fOf a.fl) i 0 0) (toI i)∧bt (ji a.cs (fOf a.fl) i 0 0) (toI i)≤1000000536870912:=by
   have:∃ l,q0 a.cs (fOf a.fl) a.cash.length=ji a.cs (fOf a.fl) i 0 0++l:=by
    obtain⟨r,hr⟩:∃ r,a.cash.length=i+r:=⟨a.cash.length-i,by omega⟩
    refine⟨((agN r).map (i+·)).flatMap fun i=>(agN (fOf a.fl i)).flatMap fun k=>aX a.cs i k,?_⟩
    rw[EC];unfold q0;rw[hr,List.range_add,List.flatMap_append]
   obtain⟨l,hl⟩:=this;exact xl hs hat.can (fun i hi=>(hfe i hi).2) i hl
  have hst0:stI a i i=bt (ji a.cs (fOf a.fl) i 0 0) (toI i):=by unfold stI;rw[if_neg (by omega)];omega
  have wC:IntKind.i64.wrap (stI a i i+a.cash.getD i 0)=stI a i i+a.cash.getD i 0:=by rw[an _ (by omega) (by omega)]
  have t1:=iget hi fun j=>stI a i j
  have t2:=ilen a.cash.length fun j=>stI a i j
  have t3:=iset hi (fun j=>stI a i j) (stI a i i+a.cash.getD i 0)
  have hB2:(fL a.cash.length fun j=>if j=i then stI a i i+a.cash.getD i 0 else stI a i j)=fL a.cash.length fun j=>(if j<i+1 then a.cash.getD j 0 else 0)+bt (ji a.cs (fOf a.fl) i 0 0) (toI j):=ca fun j _=>by
   by_cases hj:j=i
   ·rw[if_pos hj,hj,if_pos (by omega),hst0];omega
   ·rw[if_neg hj]
    unfold stI
    by_cases hj2:j<i
    ·rw[if_pos hj2,if_pos (by omega)]
    ·rw[if_neg hj2,if_neg (by omega)]
  rw[hB2] at t3;have l1:i+1≤a.cash.length:=by omega
  have hKd:(228500+i) / 1000≠248:=by omega
  generalize hKK:228500+i=KK at *;have n29:(KK=248029)=False:=eq_false (by omega);have b29:(KK==248029)=false:=beq_eq_false_iff_ne.2 (by omega);have b29':(248029==KK)=false:=beq_eq_false_iff_ne.2 (by omega);have hDC:dJ (a.deb i)=dJ (a.deb i):=rfl;generalize hR:(fL a.cash.length fun j=>stI a i j).map iC=R at *;generalize hR2:(fL a.cash.length fun j=>(if j<i+1 then a.cash.getD j 0 else 0)+bt (ji a.cs (fOf a.fl) i 0 0) (toI j)).map iC=R2 at *;generalize hRW:(fL a.cash.length fun i=>MV.ptr (228500+i) (a.gs.getD i 0) 0)=RW at *;generalize hDD:dJ (a.deb i)=DC at *;simp only[go_sem,go_sem_proc,agL,e0,e4,e5,e6,e7,e30,e31,e32,hrow,hblk,hri,hrl,hlen,qf,qp,qca,m29,t1,t2,t3,wC,d1,hi,l1,n29,b29,b29',iC,bC,agO];refine Se T mem0 a.cash a.cs (fOf a.fl) hs hat.can (fun i hi=>(hfe i hi).2) i hi (a.deb i) hok (fun k hk=>cX _ hk) (fun j=>if j<i+1 then a.cash.getD j 0 else 0) (fun j=>?_) KK (a.gs.getD i 0) hKd (by rw[hDD];exact hb0) v0 (.dat (.int .i64 a.cash.length)) (.ref 248094 g6 1 0 (payers (pOf a.P) i).length) (.ref 248098 g7 1 0 (payers (pOf a.P) i).length) (.dat (.int .i64 i)) (.ref 228023 a.g 1 0 a.cash.length) (.dat (.int .i64 a.cash.length)) (.dat (.int .i64 i)) G (some (g6,aC gU (payers (pOf a.P) i))) (some (g7,aC (shL a.cash.length a.W) (payers (pOf a.P) i))) _ _ ?_ ?_ ?_ ?_ ?_ ?_ ?_ ?_ ?_ ?_ ?_ ?_ ?_ ?_ ?_ (hfr.upd (by decide)) ?_
  ·have:=hs.cash j
   split<;>omega
  all_goals first | (intro tm' m' k0 k4 k5 k6 k7 k8 k9 k30 k31 k32 q29 q94 q98 hfr') | (simp only[aR,agP,if_false,if_true,e0,e4,e5,e6,e7,e30,e31,e32]) | (simp only[ay,agP,if_false,if_true,m94,m98]) | skip
  ·rw[←hR2]
  have hnx:(fL a.cash.length fun j=>(if j<i+1 then a.cash.getD j 0 else 0)+bt (ji a.cs (fOf a.fl) (i+1) 0 0) (toI j))=fL a.cash.length fun j=>stI a (i+1) j:=rfl
  rw[hnx] at q29;have hb2:=(hfr' KK hKd).trans hb0;have pl:=uo (pOf a.P) i;rcases q:a.P.getD i false
  ·have hps:payers (pOf a.P) (i+1)=payers (pOf a.P) i:=by
    rw[sM,if_neg (by unfold pOf;rw[q];decide),agQ]
   rw[q] at qp;refine qI ?_
   repeat' (intro h<;>simp only[h,go_sem,go_sem_proc,agL,k0,k4,k5,k6,k7,k8,k9,k30,k31,k32,q94,q98,hb2,hlen,qp,w3,bC,agO]<;>try refine qS ?_ ?_)
   exact⟨(i+1,g6,g7),by dsimp only;omega,by dsimp only;omega,rfl,by rw[hps],by rw[hps],q29,by rw[hps],by rw[hps],hfr'⟩
  ·have hP:pOf a.P i:=q
   have hps:payers (pOf a.P) (i+1)=payers (pOf a.P) i++[i]:=by
    rw[sM,if_pos hP]
   have hf10':fOf a.fl i<10:=by
    obtain⟨h1,g,h2,h3⟩:=hpay;exact (h3.fallen i hP).2
   have hsh:=yI a i m' ⟨hat.fr hfr' (by decide) hn,n2.fr hfr' (by decide),⟨hs,h10⟩,hi,hf10',hpay.S_pos i hP⟩;rw[hKK] at hsh;have hsD:shD (a,i) = .tup [.sl ((bM a.cash.length (a.W i)).map ad),.bool true]:=rfl;rw[hsD] at hsh;have ha6:=dl io xp 248094 g6 8 (payers (pOf a.P) i) i (cs:=[.dat (.int .i64 i)]) rfl (by omega) (by omega);have ha7:=dl (Fw a.cash.length a.W) (LZ a.cash.length a.W) 248098 g7 24 (payers (pOf a.P) i) i (cs:=[.dat (.sl ((bM a.cash.length (a.W i)).map ad))]) rfl (by omega) (by omega);have hl1:(payers (pOf a.P) (i+1)).length=(payers (pOf a.P) i).length+1:=by rw[hps,agR];rfl
   rw[←hps] at ha6 ha7;rw[q] at qp;generalize (bM a.cash.length (a.W i)).map ad=V at *;refine qI ?_
   repeat' (intro h<;>simp only[h,go_sem,go_sem_proc,agL,sh,k0,k4,k5,k6,k7,k8,k9,k30,k31,k32,q94,q98,hb2,hlen,qp,hsh,ha6,ha7,w3,bC,agO,agS]<;>try refine qS ?_ ?_)
   exact⟨(i+1,g6+1,g7+1),by dsimp only;omega,by dsimp only;omega,rfl,by rw[hl1],by rw[hl1],q29,rfl,rfl,by repeat first | exact hfr' | refine FrK.upd ?_ (by decide)⟩
 ·have d1:decide ((i:Int)<(a.cash.length:Int))=false:=decide_eq_false (by omega)
  obtain rfl:i=a.cash.length:=by omega
  refine qI ?_
  repeat' (intro h<;>simp only[h,go_sem,go_sem_proc,agL,e0,e4,e5,e6,e7,e30,e31,e32,d1]<;>try refine qS ?_ ?_)
  refine hK _ _ g6 g7 ?_ ?_ ?_ ?_ ?_ m29 m94 m98 hfr<;>simp only[aR,agP,if_false,e0,e4,e5,e6,e7,DebA.p]
theorem SG (T:Tab) (dZ:T dL=mkE l8) (bA:T cS=mkE lj) {K:bK→St→Prop} {kk:List Todo} (mem0:Mem) (n:Nat) (p:List Nat) (hp:p.length≤60) (W:Nat→Nat→Rat) (X:Nat→Rat) (i:Nat) (hi:i<n) (s0:Rat) (hz:∀ t,t≤p.length→szR 440 (s0+sumQ t fun k=>W (p.getD k 0) i*X k)) (hT:∀ k,k<p.length→szR 440 (W (p.getD k 0) i*X k)∧szR 30 (W (p.getD k 0) i)∧szR 295 (X k)) (v17 v110 v111 v112:MV) (G:Nat) (x156:Option (Nat × List MV)) (tm:Nat→MV) (m:Mem)
  (e6:tm 6 = .dat (.sl (p.map gU))) (e7:tm 7 = .dat (.sl (p.map (shL n W)))) (e15:tm 15 = .dat (.sl ((bM p.length X).map ad))) (e17:tm 17=v17) (e18:tm 18 = .dat (.int .i64 i)) (e20:tm 20 = .ptr 248020 G 0) (e110:tm 110=v110) (e111:tm 111=v111) (e112:tm 112=v112) (e120:tm 120 = .dat (.int .i64 p.length)) (e121:tm 121 = .dat (.int .i64 0))
  (m20:m 248020=some (G,(ad (ah s0)).map .dat)) (m156:m 248156=x156) (hfr:FrK 248 mem0 m)
  (hK:∀ tm' m',tm' 6 = .dat (.sl (p.map gU))→tm' 7 = .dat (.sl (p.map (shL n W)))→tm' 15 = .dat (.sl ((bM p.length X).map ad))→tm' 17=v17→tm' 20 = .ptr 248020 G 0→tm' 110=v110→tm' 111=v111→tm' 112=v112→m' 248020=some (G,(ad (ah (s0+sumQ p.length fun k=>W (p.getD k 0) i*X k))).map .dat)→m' 248156=x156→FrK 248 mem0 m'→kont T K kk (.exit 8) ⟨tm',m'⟩) :
  wp T (mf_clear_list.body.sub [1,1,1,1,1,1,1,1,1,0,1,0,0,0,1,1,0,0,1,1,0,1,0]) (kont T K kk) ⟨tm,m⟩:=by
 simp only[mf_clear_list,MCode.sub]
 refine ae [6,7,15,17,18,20,110,111,112,120] [248156] (fun (k:Nat) tm m=>k≤p.length∧tm 121 = .dat (.int .i64 k)∧m 248020=some (G,(ad (ah (s0+sumQ k fun k=>W (p.getD k 0) i*X k))).map .dat)∧FrK 248 mem0 m) (fun k=>p.length-k) 0 (by
  refine⟨by omega,e121,?_,hfr⟩
  rw[m20,sumQ,Rat.add_zero]) ?_
 intro vs ms hvs hms;simp only[go_sem,go_sem_proc,agL,e6,e7,e15,e17,e18,e20,e110,e111,e112,e120,m156] at hvs hms;subst hvs hms;clear e6 e7 e15 e17 e18 e20 e110 e111 e112 e120 e121 m20 m156 hfr tm m;rintro k tm m hk hm ⟨hkn,e121,m20,hfr⟩;simp only[go_sem,go_sem_proc,agL,List.cons.injEq] at hk hm;obtain⟨e6,e7,e15,e17,e18,e20,e110,e111,e112,e120⟩:=hk;rcases agM (k<p.length) with hlt | hge
 ·have d1:decide ((k:Int)<(p.length:Int))=true:=decide_eq_true (by omega)
  have w3:IntKind.i64.wrap ((k:Int)+1)=((k+1:Nat):Int):=by rw[an _ (by omega) (by omega)];omega
  obtain⟨pk,hx⟩:∃ c,p[k]?=some c:=⟨_,agT hlt⟩;have hpk:p.getD k 0=pk:=by rw[agU,hx];rfl
  obtain⟨z1,z2,z3⟩:=hT k hlt;have z0:=hz k (by omega);rw[hpk] at z1 z2;have hmul:=EG (du z2 (by omega)) (du z3 (by omega)) (tY z2 z3 (by omega));have hadd:=tf (du z0 (by omega)) (du z1 (by omega)) (ig z0 z1 (by omega))
  have hs:(s0+sumQ (k+1) fun k=>W (p.getD k 0) i*X k)=s0+sumQ k (fun k=>W (p.getD k 0) i*X k)+W pk i*X k:=by
   rw[sumQ,hpk];grind
  have hg:=eM (W pk) hi;have hgX:=eM X hlt;rw[←hs] at hadd;clear z0 z1 z2 z3 hT hz hs hK;generalize ah (s0+sumQ k fun k=>W (p.getD k 0) i*X k)=F1 at *;generalize hF2:ah (s0+sumQ (k+1) fun k=>W (p.getD k 0) i*X k)=F2 at *;generalize ah (W pk i*X k)=F3 at *;generalize ah (W pk i)=F4 at *;generalize ah (X k)=F5 at *;obtain⟨⟨a1,a2⟩,⟨a3,a4⟩⟩:=F1;obtain⟨⟨b1,b2⟩,⟨b3,b4⟩⟩:=F2;obtain⟨⟨f1,f2⟩,⟨f3,f4⟩⟩:=F3;obtain⟨⟨g1,g2⟩,⟨g3,g4⟩⟩:=F4;obtain⟨⟨k1,k2⟩,⟨k3,k4⟩⟩:=F5;simp only[ad,agV,agW] at hmul hadd m20;refine qI ?_
  repeat' (intro h<;>simp only[h,go_sem,go_sem_proc,agL,dZ,bA,e6,e7,e15,e17,e18,e20,e110,e111,e112,e120,e121,m20,hm,d1,w3,hx,shL,hg,hgX,hmul,hadd,ad,agX,agY,bne,beq_self_eq_true,agS]<;>try refine qS ?_ ?_)
  refine⟨k+1,by omega,by omega,rfl,by rw[hF2],by repeat first | exact hfr | refine FrK.upd ?_ (by decide)⟩
 ·have d1:decide ((k:Int)<(p.length:Int))=false:=decide_eq_false (by omega)
  obtain rfl:k=p.length:=by omega
  refine qI ?_
  repeat' (intro h<;>simp only[h,go_sem,go_sem_proc,agL,e6,e7,e15,e17,e18,e20,e110,e111,e112,e120,e121,d1]<;>try refine qS ?_ ?_)
  refine hK _ _ ?_ ?_ ?_ ?_ ?_ ?_ ?_ ?_ m20 hm hfr<;>simp only[aR,agP,if_false,e6,e7,e15,e17,e20,e110,e111,e112]
noncomputable def lsD (a:DebA):Data:=.tup [.sl ((bM a.cash.length ((ab a.cash a.cs).lst (fOf a.fl) (pOf a.P))).map ad),.bool true]
noncomputable def zn:List MV→Mem→Option Data:=NN (fun (a:DebA) args mem=>args=[.ref 228023 a.g 1 0 a.cash.length]∧LsQ a mem) lsD
theorem CV (a:DebA) (mem:Mem) (h:LsQ a mem):zn [.ref 228023 a.g 1 0 a.cash.length] mem=some (lsD a):=by
 refine KJ (a:=a) ?_ ⟨rfl,h⟩;rintro a b args mem ⟨e1,e2⟩ ⟨e3,e4⟩;rw[DebA.uniq e2.at_ e4.at_]
theorem TP (l:List Int):l.map iC=aC aa l:=by
 unfold aC
 induction l with
 | nil=>rfl
 | cons a l ih=>rw[agV,agV,List.flatten_cons,agZ,←ih];rfl
theorem zrow (n:Nat):(List.replicate n [MV.dat (.int .i64 0)]).flatten=(fL n fun _=>(0:Int)).map iC:=by
 induction n with
 | zero=>rfl
 | succ n ih=>rw[List.replicate_succ',List.flatten_append,ih];simp [fL,agD,iC]
theorem M7 (T:Tab) (aF:T be=mkE fx) (sh:T d7=mkN oU) (Jo:T kY=mkN rf) (dZ:T dL=mkE l8) (bA:T cS=mkE lj) (a:DebA) (mem:Mem) (ha:LsQ a mem) :
  wp T mf_clear_list.body (rh mf_clear_list.res fun m mem'=>toD 6 emp m=some (lsD a)∧FrK 248 mem mem') ⟨ax [.ref 228023 a.g 1 0 a.cash.length],mem⟩:=by
 have hat:=ha.at_;have hs:=ha.fine.sm;have hpay:=ha.pay;have hn:=hs.n5;have hmk1:(8*a.cash.length≤140737488355328)=True:=eq_true (by omega);have hmk2:(a.cash.length≤maxLen)=True:=eq_true (by unfold maxLen;omega);have h94:mem 248094=none:=ha.n1 248094 (by decide);have h98:mem 248098=none:=ha.n1 248098 (by decide);have h29:mem 248029=none:=ha.n1 248029 (by decide);have hz:=zrow a.cash.length
 have hz0:(fL a.cash.length fun j=>stI a 0 j)=fL a.cash.length fun _=>(0:Int):=ca fun j _=>by
  unfold stI;rw[if_neg (by omega),GI];rfl
 refine ap ?_;simp only[mf_clear_list];simp only[go_sem,go_sem_proc,agL,hmk1,hmk2,h94,h98,h29,hz];refine SM T sh a mem ha (.ref 228023 a.g 1 0 a.cash.length) (.ref 228023 a.g 1 0 a.cash.length) (.ref 228023 a.g 1 0 a.cash.length) 0 0 0 _ _ ?_ ?_ ?_ ?_ ?_ ?_ ?_ ?_ ?_ ?_ ?_ ((((FrK.refl _ _).upd (by decide)).upd (by decide)).upd (by decide)) ?_
 all_goals first | (intro tm m g6 g7 k0 k4 k5 k6 k7 m29 m94 m98 hfr) | (simp only[aR,agP,if_false,if_true];done) | (simp only[aR,agP,if_false,if_true];rfl) | (simp only[ay,agP,if_false,if_true,hz0]) | skip
 have hst:(fL a.cash.length fun j=>stI a a.cash.length j)=fL a.cash.length fun i=>dk a.cash a.cs (fOf a.fl) i:=ca fun j hj=>by
  unfold stI;rw[if_pos hj,EC,vD hat.can fun i hi=>(DebA.f_eq hat ha.fine hi).2]
 rw[hst,TP] at m29;have hN:∀ mm,FrK 248 mem mm→rf [.ref 228023 a.g 1 0 a.cash.length,.dat (.sl ((fL a.cash.length fun i=>dk a.cash a.cs (fOf a.fl) i).map aa)),.dat (.sl (a.p.map gU)),.dat (.sl (a.p.map (shL a.cash.length a.W)))] mm=some (.tup [.sl (a.xs.map ad),.bool true]):=fun mm h=>B9 a mm ⟨hat.fr h (by decide) hn,ha.n3.fr h (by decide),ha.fine,hpay⟩
 have hSTl:(fL a.cash.length fun i=>dk a.cash a.cs (fOf a.fl) i).length=a.cash.length:=bU _ _;have hSTg:∀ i,i<a.cash.length→(fL a.cash.length fun i=>dk a.cash a.cs (fOf a.fl) i)[i]?=some (dk a.cash a.cs (fOf a.fl) i):=fun i hi=>cX _ hi
 generalize hSTe:(fL a.cash.length fun i=>dk a.cash a.cs (fOf a.fl) i)=ST at *;have hf5:=fun (K:St→Prop) (st:St)=>cp (K:=K) (st:=st) bw 5 248029 0 ST
 rw[hSTl] at hf5;have hf6:=fun (K:St→Prop) (st:St)=>cp (K:=K) (st:=st) io 6 248094 g6 a.p
 have hf7:=fun (K:St→Prop) (st:St)=>cp (K:=K) (st:=st) (Fw a.cash.length a.W) 7 248098 g7 a.p
 have hN2:=fun g1 g2 g3 c1 c2 c3=>hN (ay (ay (ay m 248029 g1 c1) 248094 g2 c2) 248098 g3 c3) (((hfr.upd (by decide)).upd (by decide)).upd (by decide))
 simp only[go_sem,go_sem_proc,agL,Jo,k0,k4,k5,k6,k7,m29,m94,m98,hf5,hf6,hf7,hN2,hSTl,agX,agS];have hpl:a.p.length≤a.cash.length:=uo _ _;have hps:=fun i (hi:i<a.cash.length) t (ht:t≤a.p.length)=>LH hs hpay hi ht
 have hlp:=fun i (hi:i<a.cash.length)=>hpay.good.lst_pay (d:=ab a.cash a.cs) hi
 have hpe:payers (pOf a.P) (ab a.cash a.cs).n=a.p:=rfl;have hpe2:payers (pOf a.P) a.cash.length=a.p:=rfl;have hxs:a.xs=bM a.p.length fun k=>(ab a.cash a.cs).lst (fOf a.fl) (pOf a.P) (a.p.getD k 0)-(ab a.cash a.cs).U (a.p.getD k 0) (fOf a.fl (a.p.getD k 0)):=rfl
 rw[hpe] at hlp;rw[hpe2] at hps;rw[hxs];generalize hX:(fun k=>(ab a.cash a.cs).lst (fOf a.fl) (pOf a.P) (a.p.getD k 0)-(ab a.cash a.cs).U (a.p.getD k 0) (fOf a.fl (a.p.getD k 0)))=X at *;have hX':∀ k,(ab a.cash a.cs).lst (fOf a.fl) (pOf a.P) (a.p.getD k 0)-(ab a.cash a.cs).U (a.p.getD k 0) (fOf a.fl (a.p.getD k 0))=X k:=fun k=>congrFun hX k
 simp only[hX'] at hps hlp;have hcast:=fun i=>qB hs.right (fOf a.fl) i
 have hsb:=fun i=>hs.steady (fOf a.fl) i
 clear hf5 hf6 hf7 hN hN2 hxs hX hX' k0 k4 k5 k6 k7 m29 m94 m98 h94 h98 h29 hz hz0 hmk1 hmk2
 refine ae [6,7,15,110,111] [] (fun ((i,g):Nat × Nat) tm mm=>i≤a.cash.length∧tm 112 = .dat (.int .i64 i)∧tm 17 = .ref 248156 g 4 0 i∧mm 248156=some (g,aC ad (bM i ((ab a.cash a.cs).lst (fOf a.fl) (pOf a.P))))∧FrK 248 mem mm) (fun (i,_)=>a.cash.length-i) (0,cT (m 248156)) (by
  refine⟨by omega,rfl,rfl,by simp [ay];rfl,by repeat first | exact hfr | refine FrK.upd ?_ (by decide)⟩) ?_
 intro vs ms hvs hms;simp only[go_sem,go_sem_proc,agL] at hvs hms;subst hvs hms;clear hfr m tm;rintro⟨i,g⟩ tm m hk-⟨hin,e112,e17,m156,hfr⟩;simp only[go_sem,go_sem_proc,agL,List.cons.injEq] at hk;obtain⟨e6,e7,e15,e110,e111⟩:=hk;rcases agM (i<a.cash.length) with hi | hge
 ·have d1:decide ((i:Int)<(a.cash.length:Int))=true:=decide_eq_true (by omega)
  have w3:IntKind.i64.wrap ((i:Int)+1)=((i+1:Nat):Int):=by rw[an _ (by omega) (by omega)];omega
  have hgi:=hSTg i hi;have hw:=eP _ (dX (z:=dk a.cash a.cs (fOf a.fl) i) (by have:=hsb i;omega) (by have:=hsb i;omega));rw[hcast] at hw;have hps':=hps i hi;have hlp':=hlp i hi;generalize hs0:(ab a.cash a.cs).st (fOf a.fl) i=s0 at *;generalize hE:ah s0=E at *;obtain⟨⟨y1,y2⟩,⟨y3,y4⟩⟩:=E;simp only[ad] at hw;simp only[go_sem,go_sem_proc,agL,aF,e6,e7,e15,e17,e110,e111,e112,d1,hgi,hw,aa,agX,agY];refine SG T dZ bA mem a.cash.length a.p (by omega) a.W X i hi s0 (fun t ht=>(hps' t ht).1) (fun k hk=>⟨(hps' 0 (by omega)).2.1 k hk,(Pg hs hpay (gB hk).2 i).1,(hps' 0 (by omega)).2.2 k hk⟩) (.ref 248156 g 4 0 i) (.dat (.sl (ST.map aa))) (.dat (.int .i64 a.cash.length)) (.dat (.int .i64 i)) (cT (m 248020)) (some (g,aC ad (bM i ((ab a.cash a.cs).lst (fOf a.fl) (pOf a.P))))) _ _ ?_ ?_ ?_ ?_ ?_ ?_ ?_ ?_ ?_ ?_ ?_ ?_ ?_ ((hfr.upd (by decide)).upd (by decide)) ?_
  all_goals first | (intro tm' m' k6 k7 k15 k17 k20 k110 k111 k112 q20 q156 hfr') | (simp only[aR,agP,if_false,if_true,e6,e7,e15,e17,e110,e111,e112];done) | (simp only[ay,agP,if_false,if_true,m156];done) | (simp only[ay,if_true];rw[hE];rfl)
  have hlp2:s0+(sumQ a.p.length fun k=>a.W (a.p.getD k 0) i*X k)=(ab a.cash a.cs).lst (fOf a.fl) (pOf a.P) i:=hlp'.symm;rw[hlp2] at q20;have hvs:=si i ((ab a.cash a.cs).lst (fOf a.fl) (pOf a.P));have hrl:(bM i ((ab a.cash a.cs).lst (fOf a.fl) (pOf a.P))).length=i:=de _ _;have hap:=fun (F:aG) cs hcs=>dl ce jz 248156 g 64 (bM i ((ab a.cash a.cs).lst (fOf a.fl) (pOf a.P))) F (cs:=cs) hcs (by omega) (by omega)
  simp only[hrl] at hap;generalize bM i ((ab a.cash a.cs).lst (fOf a.fl) (pOf a.P))=V at *;generalize hV2:bM (i+1) ((ab a.cash a.cs).lst (fOf a.fl) (pOf a.P))=V2 at *;generalize ah ((ab a.cash a.cs).lst (fOf a.fl) (pOf a.P) i)=F at *;obtain⟨⟨a1,a2⟩,⟨a3,a4⟩⟩:=F;have hap':=hap ((a1,a2),(a3,a4)) _ rfl;rw[←hvs] at hap';simp only[ad,agV,agW] at hap' q20;simp only[go_sem,go_sem_proc,agL,k6,k7,k15,k17,k20,k110,k111,k112,q20,q156,hap',w3]
  repeat' (first|refine qS ?_ ?_|fail)<;>intro h<;>simp only[h,go_sem,go_sem_proc,agL,k6,k7,k15,k17,k20,k110,k111,k112,q20,q156,hap',w3]
  exact⟨(i+1,g+1),by dsimp only;omega,by dsimp only;omega,rfl,rfl,by rw[←hV2],by repeat first | exact hfr' | refine FrK.upd ?_ (by decide)⟩
 ·have d1:decide ((i:Int)<(a.cash.length:Int))=false:=decide_eq_false (by omega)
  obtain rfl:i=a.cash.length:=by omega
  have hvl:(bM a.cash.length ((ab a.cash a.cs).lst (fOf a.fl) (pOf a.P))).length=a.cash.length:=de _ _;have hfz:=fun (K:St→Prop) (st:St)=>cp (K:=K) (st:=st) ce 17 248156 g (bM a.cash.length ((ab a.cash a.cs).lst (fOf a.fl) (pOf a.P)))
  rw[hvl] at hfz;simp only[go_sem,go_sem_proc,agL,e6,e7,e15,e17,e110,e111,e112,m156,d1,hfz]
  repeat' (first|refine qS ?_ ?_|fail)<;>intro h<;>simp only[h,go_sem,go_sem_proc,agL,e6,e7,e15,e17,e110,e111,e112,m156,d1,hfz]
  exact⟨_,rfl,rfl,by repeat first | exact hfr | refine FrK.upd ?_ (by decide) | refine FrK.kill ?_ (by decide)⟩
def DebA.wP (a:DebA) (p:Nat→Bool):DebA:={ a with P:=bL a.cash.length p }
theorem DebA.wP_deb (a:DebA) (p:Nat→Bool) {i:Nat} (hi:i<a.cash.length):(a.wP p).deb i=(a.deb i).sp (p i):=by
 have:(bL a.cash.length p).getD i false=p i:=by rw[agU,xV _ hi];rfl
 unfold DebA.deb DebA.wP DebR.sp;dsimp only;rw[this]
theorem DebA.At.setp {a:DebA} {m:Mem} {p:Nat→Bool} (h:(a.wP p).At m) {i:Nat} (hi:i<a.cash.length) (b:Bool):(a.wP fun j=>if j=i then b else p j).At (ay m (228500+i) (a.gs.getD i 0) (dJ ((a.deb i).sp b))):=by
 refine⟨h.can,h.fl,yE _ _,h.gl,?_,fun j hj=>?_⟩
 ·have:=h.row
  simp only[ay];rw[if_neg (show ¬ ((228023:Nat)=228500+i) by omega)];exact this
 ·rw[DebA.wP_deb a _ hj]
  simp only[ay]
  by_cases hji:j=i
  ·subst hji
   rw[if_pos rfl,if_pos rfl]
   rfl
  ·rw[if_neg (show ¬ ((228500+j:Nat)=228500+i) by omega),if_neg hji]
   have:=h.blk j hj;rw[DebA.wP_deb a _ hj] at this;exact this
theorem DebA.wP_self {a:DebA} (h:a.P.length=a.cash.length):a.wP (fun j=>a.P.getD j false)=a:=by
 have:bL a.cash.length (fun j=>a.P.getD j false)=a.P:=by
  refine iV (d:=false) (yE _ _) h fun j hj=>?_
  rw[agU,xV _ hj];rfl
 unfold DebA.wP;rw[this]
theorem DebA.wP_congr (a:DebA) {p q:Nat→Bool} (h:∀ i,i<a.cash.length→p i=q i):a.wP p=a.wP q:=by
 unfold DebA.wP;rw[Io h]
def OutD (n:Nat) (mem m:Mem):Prop:=∀ k,(∀ i,i<n→k≠228500+i)→m k=mem k
theorem OutD.upd {n i g:Nat} {cs:List MV} {mem m:Mem} (h:OutD n mem m) (hi:i<n):OutD n mem (ay m (228500+i) g cs):=fun k hk=>by
 simp only[ay];rw[if_neg (hk i hi)];exact h k hk
theorem OutD.no {n j:Nat} {mem m:Mem} (h:OutD n mem m) (hn:n≤5) (hj:j≠228) (hm:NoK j mem):NoK j m:=fun k hk=>by
 rw[h k fun i hi=>by omega]
 exact hm k hk
theorem SB (T:Tab) (aF:T be=mkE fx) (aq:T aW=mkE dt) {K:bK→St→Prop} {kk:List Todo} (mem0:Mem) (a:DebA) (p:Nat→Bool) (hfine:a.Fine) (h:Nat→Rat) (hlim:∀ i,i<a.cash.length→cr (h i)) (tm:Nat→MV) (m:Mem)
  (hat:(a.wP p).At m) (hfr:OutD a.cash.length mem0 m) (e0:tm 0 = .ref 228023 a.g 1 0 a.cash.length) (e6:tm 6 = .dat (.sl ((bM a.cash.length h).map ad))) (e8:tm 8 = .dat (.bool false)) (e28:tm 28 = .ref 228023 a.g 1 0 a.cash.length) (e29:tm 29 = .dat (.int .i64 a.cash.length)) (e30:tm 30 = .dat (.int .i64 0))
  (hK:∀ tm' m',tm' 0 = .ref 228023 a.g 1 0 a.cash.length→tm' 6 = .dat (.sl ((bM a.cash.length h).map ad))→tm' 8 = .dat (.bool (pe (ab a.cash a.cs) (fOf a.fl) h p a.cash.length))→(a.wP (iR (ab a.cash a.cs) (fOf a.fl) h p a.cash.length)).At m'→OutD a.cash.length mem0 m'→kont T K kk (.exit 4) ⟨tm',m'⟩) :
  wp T (mf_clear_round.body.sub [1,1,0,0,0,1,1,1,0,1,0]) (kont T K kk) ⟨tm,m⟩:=by
 simp only[mf_clear_round,MCode.sub];obtain⟨hs,h10⟩:=hfine;have hn:=hs.n5
 refine ae [0,6,28,29] [] (fun (i:Nat) tm m=>i≤a.cash.length∧tm 30 = .dat (.int .i64 i)∧tm 8 = .dat (.bool (pe (ab a.cash a.cs) (fOf a.fl) h p i))∧(a.wP (iR (ab a.cash a.cs) (fOf a.fl) h p i)).At m∧OutD a.cash.length mem0 m) (fun i=>a.cash.length-i) 0 (by
  refine⟨by omega,e30,e8,?_,hfr⟩
  have:a.wP (iR (ab a.cash a.cs) (fOf a.fl) h p 0)=a.wP p:=a.wP_congr fun j _=>by
   unfold iR;rw[decide_eq_false (by omega),ag0,ag1]
  rw[this];exact hat) ?_
 intro vs ms hvs hms;simp only[go_sem,go_sem_proc,agL,e0,e6,e28,e29] at hvs hms;subst hvs hms;clear e0 e6 e8 e28 e29 e30 hat hfr tm m;rintro i tm m hk-⟨hi,e30,e8,hat,hfr⟩;simp only[go_sem,go_sem_proc,agL,List.cons.injEq] at hk;obtain⟨e0,e6,e28,e29⟩:=hk;rcases agM (i<a.cash.length) with hlt | hge
 ·have d1:decide ((i:Int)<(a.cash.length:Int))=true:=decide_eq_true (by omega)
  have w3:IntKind.i64.wrap ((i:Int)+1)=((i+1:Nat):Int):=by rw[an _ (by omega) (by omega)];omega
  have hfi:a.fl.getD i 10=(fOf a.fl i:Int)∧fOf a.fl i≤10:=DebA.f_eq (a:=a.wP (iR (ab a.cash a.cs) (fOf a.fl) h p i)) hat ⟨hs,h10⟩ hlt;obtain⟨hfi,hf10⟩:=hfi;have hrow:m 228023=some (a.g,fL a.cash.length fun i => .ptr (228500+i) (a.gs.getD i 0) 0):=hat.row;have hblk:m (228500+i)=some (a.gs.getD i 0,dJ ((a.wP (iR (ab a.cash a.cs) (fOf a.fl) h p i)).deb i)):=hat.blk i hlt;rw[DebA.wP_deb a _ hlt,AH] at hblk;have hri:=nE (cX (fun i=>MV.ptr (228500+i) (a.gs.getD i 0) 0) hlt);have hrl:(fL a.cash.length fun i=>MV.ptr (228500+i) (a.gs.getD i 0) 0).length=a.cash.length:=bU _ _;have hok:((a.deb i).sp (p i)).OK:=⟨(a.deb_ok i).cl,(a.deb_ok i).us⟩;have hlen:=jS hok;have qf:ag2 1 (ag3 22 (dJ ((a.deb i).sp (p i))))=[iC (fOf a.fl i:Int)]:=(z7 hok).trans (congrArg (fun x=>[iC x]) hfi);have qp:ag2 1 (ag3 23 (dJ ((a.deb i).sp (p i))))=[bC (p i)]:=NZ hok;have qu:=uz hok (k:=fOf a.fl i) (z:=aP a.cs i (fOf a.fl i:Nat)) (cX _ (by omega));have qs:_=dJ ((a.deb i).sp true):=AP hok true;have hset:=hat.setp hlt true;have hms:=DX (ab a.cash a.cs) (fOf a.fl) h p i
  have hsame:(p i=true∨sX (ab a.cash a.cs) (fOf a.fl) h i=false)→a.wP (iR (ab a.cash a.cs) (fOf a.fl) h p (i+1))=a.wP (iR (ab a.cash a.cs) (fOf a.fl) h p i):=fun hh=>a.wP_congr fun j _=>by
   rw[uR]
   by_cases hj:j=i
   ·subst hj
    rw[if_pos rfl,AH];rcases hh with h1 | h1
    ·rw[h1];rfl
    ·rw[h1,ag1]
   ·rw[if_neg hj]
  have l1:i+1≤a.cash.length:=by omega
  have l2:fOf a.fl i<11:=by omega
  have l3:(11+fOf a.fl i+1≤24)=True:=eq_true (by omega);have l4:(23+1≤24)=True:=eq_true (by omega);generalize hRW:(fL a.cash.length fun i=>MV.ptr (228500+i) (a.gs.getD i 0) 0)=RW at *;have hKK:228500+i=228500+i:=rfl;generalize hKd:228500+i=KK at *;generalize hDD:dJ ((a.deb i).sp (p i))=DC at *;rcases d2:decide ((fOf a.fl i:Int)<10)
  ·have hnew:sX (ab a.cash a.cs) (fOf a.fl) h i=false:=by
    unfold sX;rw[decide_eq_false (by have:=of_decide_eq_false d2;omega),ag0]
   rw[hnew,ag4,ag1] at hms;simp only[go_sem,go_sem_proc,agL,e0,e6,e8,e28,e29,e30,hrow,hblk,hri,hrl,hlen,qf,d1,d2,w3,hlt,l1,iC,bC,agO]
   repeat' (first|refine qS ?_ ?_|fail)<;>intro h<;>simp only[h,go_sem,go_sem_proc,agL,e0,e6,e8,e28,e29,e30,hrow,hblk,hri,hrl,hlen,qf,d1,d2,w3,hlt,l1,iC,bC,agO]
   exact⟨i+1,by omega,by omega,rfl,by rw[hms],by rw[hsame (.inr hnew)];exact hat,hfr⟩
  ·rcases hpi:p i
   ·rw[hpi] at qp
    have hU:=hs.upto i (fOf a.fl i);have iU:ct (aP a.cs i (fOf a.fl i:Nat)):=dX (by omega) (by omega);have hw:=eP _ iU;have hcmp:=fJ (hlim i hlt) (eT iU);have hgt:decide (kK (h i) ((aP a.cs i (fOf a.fl i:Nat):Int):Rat)>0)=decide (((aP a.cs i (fOf a.fl i:Nat):Int):Rat)<h i):=AU
    have hne:sX (ab a.cash a.cs) (fOf a.fl) h i=decide (((aP a.cs i (fOf a.fl i:Nat):Int):Rat)<h i):=by
     unfold sX;rw[dQ hs.right,decide_eq_true (show fOf a.fl i<10 by have:=of_decide_eq_true d2;omega),ag5]
    rw[←hne] at hgt;have hvg:=eM h hlt;generalize hH:ah (h i)=H at *;generalize hX:ah ((aP a.cs i (fOf a.fl i:Nat):Int):Rat)=X at *;obtain⟨⟨b1,b2⟩,⟨b3,b4⟩⟩:=X;obtain⟨⟨a1,a2⟩,⟨a3,a4⟩⟩:=H;simp only[ad] at hw hcmp;rcases hnew:sX (ab a.cash a.cs) (fOf a.fl) h i
    ·rw[hnew] at hgt
     rw[hpi,hnew,ag4,ag1] at hms;simp only[go_sem,go_sem_proc,agL,aF,aq,e0,e6,e8,e28,e29,e30,hrow,hblk,hri,hrl,hlen,qf,qp,qu,d1,d2,w3,hlt,l1,l2,l3,hw,hcmp,hgt,hvg,ad,iC,bC,agO,ag6,agS,agX,agY]
     repeat' (first|refine qS ?_ ?_|fail)<;>intro h<;>simp only[h,go_sem,go_sem_proc,agL,aF,aq,e0,e6,e8,e28,e29,e30,hrow,hblk,hri,hrl,hlen,qf,qp,qu,d1,d2,w3,hlt,l1,l2,l3,hw,hcmp,hgt,hvg,ad,iC,bC,agO,ag6,agS,agX,agY]
     exact⟨i+1,by omega,by omega,rfl,by rw[hms],by rw[hsame (.inr hnew)];exact hat,hfr⟩
    ·rw[hnew] at hgt
     rw[hpi,hnew,ag6,ag5,ag7] at hms
     have hnx:a.wP (iR (ab a.cash a.cs) (fOf a.fl) h p (i+1))=a.wP fun j=>if j=i then true else iR (ab a.cash a.cs) (fOf a.fl) h p i j:=a.wP_congr fun j _=>by
      rw[uR,hnew,ag7]
     rw[←hnx] at hset;have hfr2:=hfr.upd (g:=a.gs.getD i 0) (cs:=dJ ((a.deb i).sp true)) hlt;rw[hKd] at hfr2;simp only[go_sem,go_sem_proc,agL,aF,aq,e0,e6,e8,e28,e29,e30,hrow,hblk,hri,hrl,hlen,qf,qp,qu,qs,d1,d2,w3,hlt,l1,l2,l3,l4,hw,hcmp,hgt,hvg,ad,iC,bC,agO,ag6,agS,agX,agY]
     repeat' (first|refine qS ?_ ?_|fail)<;>intro h<;>simp only[h,go_sem,go_sem_proc,agL,aF,aq,e0,e6,e8,e28,e29,e30,hrow,hblk,hri,hrl,hlen,qf,qp,qu,qs,d1,d2,w3,hlt,l1,l2,l3,l4,hw,hcmp,hgt,hvg,ad,iC,bC,agO,ag6,agS,agX,agY]
     exact⟨i+1,by omega,by omega,rfl,by rw[hms],hset,hfr2⟩
   ·rw[hpi] at qp
    rw[hpi,agS,ag0,ag1] at hms;simp only[go_sem,go_sem_proc,agL,e0,e6,e8,e28,e29,e30,hrow,hblk,hri,hrl,hlen,qf,qp,d1,d2,w3,hlt,l1,iC,bC,agO,agS]
    repeat' (first|refine qS ?_ ?_|fail)<;>intro h<;>simp only[h,go_sem,go_sem_proc,agL,e0,e6,e8,e28,e29,e30,hrow,hblk,hri,hrl,hlen,qf,qp,d1,d2,w3,hlt,l1,iC,bC,agO,agS]
    exact⟨i+1,by omega,by omega,rfl,by rw[hms],by rw[hsame (.inl hpi)];exact hat,hfr⟩
 ·have d1:decide ((i:Int)<(a.cash.length:Int))=false:=decide_eq_false (by omega)
  obtain rfl:i=a.cash.length:=by omega
  simp only[go_sem,go_sem_proc,agL,e0,e6,e8,e28,e29,e30,d1]
  repeat' (first|refine qS ?_ ?_|fail)<;>intro h<;>simp only[h,go_sem,go_sem_proc,agL,e0,e6,e8,e28,e29,e30,d1]
  refine hK _ _ ?_ ?_ ?_ hat hfr<;>simp only[aR,agP,if_false,e0,e6,e8]
structure RnQ (a:DebA) (mem:Mem):Prop where
 at_:a.At mem
 n1:NoK 248 mem
 n2:NoK 255 mem
 n3:NoK 256 mem
 fine:a.Fine
 inv:∃ g,Inv (ab a.cash a.cs) (fOf a.fl) g
def xK (a:DebA) (mem:Mem):MV→Mem→Prop:=fun m mem'=>m = .tup [.dat (.sl ((bM a.cash.length ((ab a.cash a.cs).top (fOf a.fl))).map ad)),.dat (.bool true)]∧∃ p,(a.wP p).At mem'∧OutD a.cash.length mem mem'
noncomputable def nN:List MV→Mem→Option (MV→Mem→Prop):=QQ (fun (a:DebA) args mem=>args=[.ref 228023 a.g 1 0 a.cash.length]∧RnQ a mem) xK
theorem Ct (a:DebA) (mem:Mem) (h:RnQ a mem):nN [.ref 228023 a.g 1 0 a.cash.length] mem=some (xK a mem):=by
 refine Jk (a:=a) ?_ ⟨rfl,h⟩;rintro a b args mem ⟨e1,e2⟩ ⟨e3,e4⟩;rw[DebA.uniq e2.at_ e4.at_]
theorem KX (T:Tab) (Mp:T lU=mkN zn) (aF:T be=mkE fx) (aq:T aW=mkE dt) (a:DebA) (mem:Mem) (ha:RnQ a mem) :
  wp T mf_clear_round.body (rh mf_clear_round.res (xK a mem)) ⟨ax [.ref 228023 a.g 1 0 a.cash.length],mem⟩:=by
 obtain⟨hat0,n1,n2,n3,hfine,g0,hinv⟩:=ha;have hs:=hfine.sm;have hn:=hs.n5;have hd:=hs.ok;refine ap ?_;simp only[mf_clear_round];simp only[go_sem,go_sem_proc,agL]
 refine ae [0,11,12] [] (fun (i:Nat) tm m=>i≤a.cash.length∧tm 13 = .dat (.int .i64 i)∧(a.wP fun j=>if j<i then false else a.P.getD j false).At m∧OutD a.cash.length mem m) (fun i=>a.cash.length-i) 0 (by
  refine⟨by omega,rfl,?_,fun _ _=>rfl⟩
  have:(a.wP fun j=>if j<0 then false else a.P.getD j false)=a:=(a.wP_congr fun j _=>by rw[if_neg (by omega)]).trans (DebA.wP_self hat0.pl);rw[this];exact hat0) ?_
 intro vs ms hvs hms;simp only[go_sem,go_sem_proc,agL] at hvs hms;subst hvs hms;rintro i tm m hk-⟨hi,e13,hat,hfr⟩;simp only[go_sem,go_sem_proc,agL,List.cons.injEq] at hk;obtain⟨e0,e11,e12⟩:=hk;rcases agM (i<a.cash.length) with hlt | hge
 ·have d1:decide ((i:Int)<(a.cash.length:Int))=true:=decide_eq_true (by omega)
  have w3:IntKind.i64.wrap ((i:Int)+1)=((i+1:Nat):Int):=by rw[an _ (by omega) (by omega)];omega
  have hrow:m 228023=some (a.g,fL a.cash.length fun i => .ptr (228500+i) (a.gs.getD i 0) 0):=hat.row;have hblk:m (228500+i)=some (a.gs.getD i 0,_):=hat.blk i hlt;rw[DebA.wP_deb a _ hlt] at hblk;have hri:=nE (cX (fun i=>MV.ptr (228500+i) (a.gs.getD i 0) 0) hlt);have hrl:(fL a.cash.length fun i=>MV.ptr (228500+i) (a.gs.getD i 0) 0).length=a.cash.length:=bU _ _;have hok:((a.deb i).sp (if i<i then false else a.P.getD i false)).OK:=⟨(a.deb_ok i).cl,(a.deb_ok i).us⟩;have hlen:=jS hok;have qs:_=dJ ((a.deb i).sp false):=AP hok false;have hset:=hat.setp hlt false;have hfr2:=hfr.upd (g:=a.gs.getD i 0) (cs:=dJ ((a.deb i).sp false)) hlt
  have hnx:(a.wP fun j=>if j<i+1 then false else a.P.getD j false)=a.wP fun j=>if j=i then false else if j<i then false else a.P.getD j false:=a.wP_congr fun j _=>by
   by_cases h1:j=i
   ·rw[if_pos h1,if_pos (by omega)]
   ·rw[if_neg h1]
    by_cases h2:j<i
    ·rw[if_pos h2,if_pos (by omega)]
    ·rw[if_neg h2,if_neg (by omega)]
  rw[←hnx] at hset;have l1:i+1≤a.cash.length:=by omega
  have l4:(23+1≤24)=True:=eq_true (by omega);generalize hRW:(fL a.cash.length fun i=>MV.ptr (228500+i) (a.gs.getD i 0) 0)=RW at *;generalize hKd:228500+i=KK at *;generalize hDD:dJ ((a.deb i).sp (if i<i then false else a.P.getD i false))=DC at *;simp only[go_sem,go_sem_proc,agL,e0,e11,e12,e13,hrow,hblk,hri,hrl,hlen,qs,d1,w3,hlt,l1,l4,iC,bC,agO]
  repeat' (first|refine qS ?_ ?_|fail)<;>intro h<;>simp only[h,go_sem,go_sem_proc,agL,e0,e11,e12,e13,hrow,hblk,hri,hrl,hlen,qs,d1,w3,hlt,l1,l4,iC,bC,agO]
  exact⟨i+1,by omega,by omega,rfl,hset,hfr2⟩
 ·have d1:decide ((i:Int)<(a.cash.length:Int))=false:=decide_eq_false (by omega)
  obtain rfl:i=a.cash.length:=by omega
  have hnx:(a.wP fun j=>if j<a.cash.length then false else a.P.getD j false)=a.wP fun _=>false:=a.wP_congr fun j hj=>by rw[if_pos hj]
  rw[hnx] at hat;simp only[go_sem,go_sem_proc,agL,e0,e11,e12,e13,d1]
  refine ae [0] [] (fun (p:Nat→Bool) tm m=>(a.wP p).At m∧OutD a.cash.length mem m∧PayG (ab a.cash a.cs) (fOf a.fl) (pOf (bL a.cash.length p))) (fun p=>kR a.cash.length fun i=>if p i then 0 else 1) (fun _=>false) (by
   refine⟨hat,hfr,?_⟩;rw[GQ];exact⟨hd,g0,hinv,Pay.first hd hinv⟩) ?_
  intro vs ms hvs hms;simp only[go_sem,go_sem_proc,agL,e0] at hvs hms;subst hvs hms;clear e0 e11 e12 e13 hfr hat;rintro p tm m e0-⟨hat,hfr,hpay⟩;simp only[go_sem,go_sem_proc,agL,List.cons.injEq] at e0;have hN:=CV (a.wP p) m ⟨hat,hfr.no hn (by decide) n1,hfr.no hn (by decide) n2,hfr.no hn (by decide) n3,⟨hfine.sm,hfine.h10⟩,hpay⟩;have hL:lsD (a.wP p) = .tup [.sl ((bM a.cash.length ((ab a.cash a.cs).lst (fOf a.fl) (pOf (bL a.cash.length p)))).map ad),.bool true]:=rfl;rw[hL,show (a.wP p).g=a.g from rfl,show (a.wP p).cash=a.cash from rfl] at hN;simp only[go_sem,go_sem_proc,agL,Mp,e0,hN,agS];refine SB T aF aq m a p hfine ((ab a.cash a.cs).lst (fOf a.fl) (pOf (bL a.cash.length p))) (fun i hi=>du (I2 hs hpay hi) (by omega)) _ _ hat (fun _ _=>rfl) ?_ ?_ ?_ ?_ ?_ ?_ ?_
  all_goals first | (intro tm2 m2 k0 k6 k8 hat2 hfr2) | (simp only[aR,agP,if_false,if_true,e0];done)
  obtain⟨hok,g1,hi1,hp1⟩:=hpay;rcases hm:pe (ab a.cash a.cs) (fOf a.fl) ((ab a.cash a.cs).lst (fOf a.fl) (pOf (bL a.cash.length p))) p a.cash.length
  ·rw[hm] at k8
   have htop:=hp1.is_top hd hi1 fun i hi h1 h2=>pOf_bL.2 ⟨hi,Na hm hi h1 h2⟩
   rw[js (N:=a.cash.length) htop] at k6;simp only[go_sem,go_sem_proc,agL,k0,k6,k8,ag6]
   repeat' (first|refine qS ?_ ?_|fail)<;>intro h<;>simp only[h,go_sem,go_sem_proc,agL,k0,k6,k8,ag6]
   exact⟨_,rfl,rfl,_,hat2,fun k hk=>(hfr2 k hk).trans (hfr k hk)⟩
  ·rw[hm] at k8
   simp only[go_sem,go_sem_proc,agL,k0,k6,k8,agS]
   repeat' (first|refine qS ?_ ?_|fail)<;>intro h<;>simp only[h,go_sem,go_sem_proc,agL,k0,k6,k8,agS]
   refine⟨_,Ma hm,hat2,fun k hk=>(hfr2 k hk).trans (hfr k hk),?_⟩
   have hsn:=GM (d:=ab a.cash a.cs) (f:=fOf a.fl) (h:=(ab a.cash a.cs).lst (fOf a.fl) (pOf (bL a.cash.length p))) (p:=p);have hdn:(ab a.cash a.cs).n=a.cash.length:=rfl;rw[hdn] at hsn;rw[hsn];exact⟨hd,g1,hi1,hp1.succ hd hi1⟩
def opB (c:Int) (q:Nat→MV) (us:Nat→Int) (f:Int) (p:Bool):List MV:=iC c::(fL 10 q++((fL 11 us).map iC++[iC f,bC p]))
theorem tp (c:Int) (q:Nat→MV) (us:Nat→Int) (f:Int) (p:Bool):(opB c q us f p).length=24:=by
 simp [opB,bU]
theorem yJ {c:Int} {q:Nat→MV} {us:Nat→Int} {f:Int} {p:Bool} {k:Nat} (hk:k<10):(opB c q us f p)[1+k]?=some (q k):=by
 unfold opB;rw[ag8,ag9,aha (by rw[bU];exact hk)];exact cX q hk
theorem Ow {c:Int} {q:Nat→MV} {us:Nat→Int} {f:Int} {p:Bool} {k:Nat} (hk:k<10):ag2 1 (ag3 (1+k) (opB c q us f p))=[q k]:=nE (yJ hk)
theorem PL {c:Int} {q:Nat→MV} {us:Nat→Int} {f:Int} {p:Bool} {k:Nat} (hk:k<11):ag2 1 (ag3 (11+k) (opB c q us f p))=[.dat (.int .i64 (us k))]:=by
 refine nE ?_;unfold opB;rw[show 11+k=(10+k)+1 by omega,ag9,ahb (by rw[bU];omega),bU,aha (by rw[agX,bU];omega),show 10+k-10=k by omega,agY,cX us hk]
 rfl
theorem lB {l:List MV} {k:Nat} {v:MV} (hk:k<l.length):ag2 k l++[v]++ag3 (k+1) l=l.set k v:=by
 rw[List.set_eq_take_append_cons_drop,if_pos hk];simp
theorem vK {c:Int} {q:Nat→MV} {us:Nat→Int} {f:Int} {p:Bool} {k:Nat} (hk:k<10) (v:MV):(opB c q us f p).set (1+k) v=opB c (fun j=>if j=k then v else q j) us f p:=by
 unfold opB;rw[ag8,ahc,ahd _ _ (by rw[bU];exact hk),nc]
theorem Jj {c:Int} {q:Nat→MV} {us:Nat→Int} {f:Int} {p:Bool} {k:Nat} (hk:k<11) (v:Int):(opB c q us f p).set (11+k) (.dat (.int .i64 v))=opB c q (fun j=>if j=k then v else us j) f p:=by
 unfold opB;rw[show 11+k=(10+k)+1 by omega,ahc,ahe _ _ (by rw[bU];omega),bU,ahd _ _ (by rw[agX,bU];omega),show 10+k-10=k by omega,←nc,List.map_set]
 rfl
theorem gQ {c:Int} {q q':Nat→MV} {us us':Nat→Int} {f:Int} {p:Bool} (h:∀ k,k<10→q k=q' k) (h':∀ k,k<11→us k=us' k):opB c q us f p=opB c q' us' f p:=by
 unfold opB;rw[ca h,ca h']
theorem NO (T:Tab) {K:bK→St→Prop} {kk:List Todo} (m0:Mem) (KK gK g9:Nat) (c:Int) (q:Nat→MV) (us:Nat→Int) (c1 c2:Int) (r:Nat) (am:Int) (hr:r<10) (hb:∀ j,0≤us j∧us j≤4000000000000000000) (ham:0≤am∧am≤1000000000000000) (hKK:KK≠228009) (v5 v25 v26 v27:MV) (tm:Nat→MV) (m:Mem)
  (e5:tm 5=v5) (e9:tm 9 = .ptr 228009 g9 0) (e10:tm 10 = .ptr KK gK 0) (e11:tm 11 = .dat (.int .i64 (r+1:Nat))) (e25:tm 25=v25) (e26:tm 26=v26) (e27:tm 27=v27) (m9:m0 228009=some (g9,[.dat (.int .i64 c1),.dat (.int .i64 c2),.dat (.int .i64 r),.dat (.int .i64 am)])) (mK:m KK=some (gK,opB c q us 10 false)) (hfr:∀ k,k≠KK→m k=m0 k)
  (hK:∀ tm' m',tm' 5=v5→tm' 25=v25→tm' 26=v26→tm' 27=v27→m' KK=some (gK,opB c q (fun j=>us j+if r<j then am else 0) 10 false)→(∀ k,k≠KK→m' k=m0 k)→kont T K kk (.exit 4) ⟨tm',m'⟩) :
  wp T (mf_clear_open.body.sub [1,1,1,0,1,0,0,1,1,0,0,1,1,1,1,0]) (kont T K kk) ⟨tm,m⟩:=by
 simp only[mf_clear_open,MCode.sub]
 refine ae [5,9,10,25,26,27] [] (fun (k:Nat) tm m=>r<k∧k≤11∧tm 11 = .dat (.int .i64 k)∧m KK=some (gK,opB c q (fun j=>us j+if r<j∧j<k then am else 0) 10 false)∧∀ k,k≠KK→m k=m0 k) (fun k=>11-k) (r+1) (by
  refine⟨by omega,by omega,e11,?_,hfr⟩
  rw[mK]
  congr 2
  exact gQ (fun _ _=>rfl) fun j _=>by rw[if_neg (by omega)];omega) ?_
 intro vs ms hvs hms;simp only[go_sem,go_sem_proc,agL,e5,e9,e10,e25,e26,e27] at hvs hms;subst hvs hms;clear e5 e9 e10 e11 e25 e26 e27 mK hfr tm m;rintro k tm m hk-⟨hrk,hk11,e11,mK,hfr⟩;simp only[go_sem,go_sem_proc,agL,List.cons.injEq] at hk;obtain⟨e5,e9,e10,e25,e26,e27⟩:=hk;have q9:=(hfr 228009 (Ne.symm hKK)).trans m9;rcases agM (k≤10) with hlt | hge
 ·have d1:decide ((k:Int)≤10)=true:=decide_eq_true (by omega)
  have w3:IntKind.i64.wrap ((k:Int)+1)=((k+1:Nat):Int):=by rw[an _ (by omega) (by omega)];omega
  have hlen:=tp c q (fun j=>us j+if r<j∧j<k then am else 0) 10 false;have hg:=PL (c:=c) (q:=q) (us:=fun j=>us j+if r<j∧j<k then am else 0) (f:=10) (p:=false) (k:=k) (by omega);have hst:=(lB (l:=opB c q (fun j=>us j+if r<j∧j<k then am else 0) 10 false) (k:=11+k) (v:=.dat (.int .i64 (us k+am))) (by rw[tp];omega)).trans (Jj (by omega) (us k+am))
  have hnx:opB c q (fun j=>if j=k then us k+am else us j+if r<j∧j<k then am else 0) 10 false=opB c q (fun j=>us j+if r<j∧j<k+1 then am else 0) 10 false:=gQ (fun _ _=>rfl) fun j _=>by
   by_cases hj:j=k
   ·rw[if_pos hj,hj,if_pos ⟨hrk,by omega⟩]
   ·rw[if_neg hj]
    by_cases h2:r<j∧j<k
    ·rw[if_pos h2,if_pos ⟨h2.1,by omega⟩]
    ·rw[if_neg h2,if_neg (by omega)]
  rw[hnx] at hst;rw[if_neg (by omega),ahf] at hg;have wA:IntKind.i64.wrap (us k+am)=us k+am:=by have:=hb k;rw[an _ (by omega) (by omega)]
  have l2:k<11:=by omega
  have l3:(11+k+1≤24)=True:=eq_true (by omega);have b9:(KK==228009)=false:=beq_eq_false_iff_ne.2 hKK;have b9':(228009==KK)=false:=beq_eq_false_iff_ne.2 (Ne.symm hKK);generalize opB c q (fun j=>us j+if r<j∧j<k then am else 0) 10 false=D1 at *;generalize hD2:opB c q (fun j=>us j+if r<j∧j<k+1 then am else 0) 10 false=D2 at *;refine qI ?_
  repeat' (intro h<;>simp only[h,go_sem,go_sem_proc,agL,e5,e9,e10,e11,e25,e26,e27,q9,mK,d1,w3,hlen,hg,hst,wA,l2,l3,b9,b9',agO]<;>try refine qS ?_ ?_)
  refine⟨k+1,by omega,by omega,by omega,rfl,by rw[hD2],fun j hj=>?_⟩
  simp only[ay,hj,if_false];exact hfr j hj
 ·have d1:decide ((k:Int)≤10)=false:=decide_eq_false (by omega)
  obtain rfl:k=11:=by omega
  have hnx:opB c q (fun j=>us j+if r<j∧j<11 then am else 0) 10 false=opB c q (fun j=>us j+if r<j then am else 0) 10 false:=gQ (fun _ _=>rfl) fun j hj=>by
   by_cases h2:r<j
   ·rw[if_pos ⟨h2,hj⟩,if_pos h2]
   ·rw[if_neg (by omega),if_neg h2]
  rw[hnx] at mK;refine qI ?_
  repeat' (intro h<;>simp only[h,go_sem,go_sem_proc,agL,e5,e9,e10,e11,e25,e26,e27,d1]<;>try refine qS ?_ ?_)
  refine hK _ _ ?_ ?_ ?_ ?_ mK hfr<;>simp only[aR,agP,if_false,e5,e25,e26,e27]
def cM (l:List ClR) (gg:Nat→Nat→Nat) (i k:Nat):MV:=if aX l i k=[] then .nil else .ref (228600+10*i+k) (gg i k) 4 0 (aX l i k).length
structure OpAt (cash:List Int) (l:List ClR) (g:Nat) (gs:Nat→Nat) (gg:Nat→Nat→Nat) (m:Mem):Prop where
 row:m 228023=some (g,fL cash.length fun i => .ptr (228500+i) (gs i) 0)
 blk:∀ i,i<cash.length→m (228500+i)=some (gs i,opB (cash.getD i 0) (cM l gg i) (fun k=>aP l i (k:Nat)) 10 false)
 cel:∀ i k,i<cash.length→k<10→aX l i k≠[]→m (228600+10*i+k)=some (gg i k,aC clL (aX l i k))
theorem JN (l:List ClR) (c:ClR) (i k:Nat):aX (l++[c]) i k=if c.1=(i:Int)∧c.2.2.1=(k:Int) then aX l i k++[c] else aX l i k:=by
 unfold aX;rw[agE]
 by_cases h:c.1=(i:Int)∧c.2.2.1=(k:Int)
 ·rw[if_pos h,agF (by simp [h.1,h.2]),agG]
 ·rw[if_neg h,agH (by simpa using h),agG,agQ]
theorem mg (l:List ClR) (c1 c2 c3 c4:Int) (i k:Nat):aX (l++[(c1,c2,c3,c4)]) i k=if c1=(i:Int)∧c3=(k:Int) then aX l i k++[(c1,c2,c3,c4)] else aX l i k:=JN l _ i k
theorem JG (l:List ClR) (c:ClR) (i r:Int):aP (l++[c]) i r=aP l i r+if c.1=i∧c.2.2.1<r then c.2.2.2 else 0:=by
 unfold aP;rw[rn]
theorem wy (l:List ClR) (c1 c2 c3 c4 i r:Int):aP (l++[(c1,c2,c3,c4)]) i r=aP l i r+if c1=i∧c3<r then c4 else 0:=JG l _ i r
theorem OpAt.next {cash:List Int} {l:List ClR} {g:Nat} {gs:Nat→Nat} {gg:Nat→Nat→Nat} {m m':Mem} (h:OpAt cash l g gs gg m) (hn:cash.length≤5) {c1 c3:Nat} {c2 c4:Int} (hc1:c1<cash.length) (hc3:c3<10) (gn:Nat)
  (hrow:m' 228023=m 228023) (hoth:∀ i,i<cash.length→i≠c1→m' (228500+i)=m (228500+i)) (hblk:m' (228500+c1)=some (gs c1,opB (cash.getD c1 0) (fun k=>if k=c3 then .ref (228600+10*c1+c3) gn 4 0 ((aX l c1 c3).length+1) else cM l gg c1 k) (fun k=>aP l c1 (k:Nat)+if c3<k then c4 else 0) 10 false))
  (hcel:m' (228600+10*c1+c3)=some (gn,aC clL (aX l c1 c3++[((c1:Int),c2,(c3:Int),c4)]))) (hcoth:∀ i k,i<cash.length→k<10→¬ (i=c1∧k=c3)→m' (228600+10*i+k)=m (228600+10*i+k)):OpAt cash (l++[((c1:Int),c2,(c3:Int),c4)]) g gs (fun i k=>if i=c1∧k=c3 then gn else gg i k) m':=by
 refine⟨by rw[hrow];exact h.row,fun i hi=>?_,fun i k hi hk hne=>?_⟩
 ·by_cases hic:i=c1
  ·subst hic
   rw[hblk]
   congr 2
   refine gQ (fun k hk=>?_) fun k hk=>?_
   ·unfold cM
    by_cases hkc:k=c3
    ·subst hkc
     have e1:aX (l++[((i:Int),c2,(k:Int),c4)]) i k=aX l i k++[((i:Int),c2,(k:Int),c4)]:=by rw[mg,if_pos ⟨rfl,rfl⟩]
     rw[e1,if_pos rfl,if_neg (by simp),agR];simp
    ·have e1:aX (l++[((i:Int),c2,(c3:Int),c4)]) i k=aX l i k:=by rw[mg,if_neg (by omega)]
     rw[if_neg hkc,e1];dsimp only;rw[if_neg (show ¬ (i=i∧k=c3) by omega)]
   ·rw[wy]
    by_cases hk2:c3<k
    ·rw[if_pos hk2,if_pos (by omega)]
    ·rw[if_neg hk2,if_neg (by omega)]
  ·rw[hoth i hi hic,h.blk i hi]
   congr 2
   refine gQ (fun k hk=>?_) fun k hk=>?_
   ·unfold cM
    have e1:aX (l++[((c1:Int),c2,(c3:Int),c4)]) i k=aX l i k:=by rw[mg,if_neg (by omega)]
    rw[e1];dsimp only;rw[if_neg (show ¬ (i=c1∧k=c3) by omega)]
   ·rw[wy,if_neg (by omega),ahf]
 ·by_cases hic:i=c1∧k=c3
  ·obtain⟨rfl,rfl⟩:=hic
   have e1:aX (l++[((i:Int),c2,(k:Int),c4)]) i k=aX l i k++[((i:Int),c2,(k:Int),c4)]:=by rw[mg,if_pos ⟨rfl,rfl⟩]
   rw[e1,if_pos ⟨rfl,rfl⟩];exact hcel
  ·have e1:aX (l++[((c1:Int),c2,(c3:Int),c4)]) i k=aX l i k:=by rw[mg,if_neg (by omega)]
   rw[e1] at hne ⊢;rw[if_neg hic,hcoth i k hi hk hic];exact h.cel i k hi hk hne
theorem rY {K:St→Prop} {tm:Nat→MV} {mem mem':Mem} (h:MoveS mem mem') (hK:∀ M,M=mem'→K ⟨tm,M⟩):dW K ⟨tm,mem⟩ .many:=⟨mem',.step h (.refl _),hK _ rfl⟩
theorem rS {K:St→Prop} {tm:Nat→MV} {mem:Mem} (hK:∀ M,M=mem→K ⟨tm,M⟩):dW K ⟨tm,mem⟩ .many:=⟨mem,.refl _,hK _ rfl⟩
theorem cn {m:Mem} {k g:Nat} {cs:List MV}:ay m k g cs k=some (g,cs):=by simp [ay]
theorem aJ {m:Mem} {k j g:Nat} {cs:List MV} (h:k≠j):ay m j g cs k=m k:=by
 simp only[ay];rw[if_neg h]
theorem Rp (T:Tab) {K:bK→St→Prop} {kk:List Todo} (mem0:Mem) (cash:List Int) (cs:List ClR) (hs:SmallD cash cs) (g:Nat) (gs:Nat→Nat) (gg:Nat→Nat→Nat) (tm:Nat→MV) (m:Mem)
  (e5:tm 5 = .ref 228023 g 1 0 cash.length) (e25:tm 25 = .dat (.sl (cs.map clL))) (e26:tm 26 = .dat (.int .i64 cs.length)) (e27:tm 27 = .dat (.int .i64 0)) (hat:OpAt cash [] g gs gg m) (hfr:FrK 228 mem0 m)
  (hK:∀ tm' m' gg',tm' 5 = .ref 228023 g 1 0 cash.length→OpAt cash cs g gs gg' m'→FrK 228 mem0 m'→kont T K kk (.exit 2) ⟨tm',m'⟩) :
  wp T (mf_clear_open.body.sub [1,1,1,0,1,0]) (kont T K kk) ⟨tm,m⟩:=by
 simp only[mf_clear_open,MCode.sub];have hn:=hs.n5;have hr:=(rightD_iff.1 hs.right).2.2.2;have h12:=hs.c12;refine ae [5,25,26] [] (fun ((t,gg):Nat × (Nat→Nat→Nat)) tm m=>t≤cs.length∧tm 27 = .dat (.int .i64 t)∧OpAt cash (cs.take t) g gs gg m∧FrK 228 mem0 m) (fun (t,_)=>cs.length-t) (0,gg) (by refine⟨by omega,e27,by rw[List.take_zero];exact hat,hfr⟩) ?_;intro vs ms hvs hms;simp only[go_sem,go_sem_proc,agL,e5,e25,e26] at hvs hms;subst hvs hms;clear e5 e25 e26 e27 hat hfr tm m;rintro⟨t,gg⟩ tm m hk-⟨ht,e27,hat,hfr⟩;simp only[go_sem,go_sem_proc,agL,List.cons.injEq] at hk;obtain⟨e5,e25,e26⟩:=hk;rcases agM (t<cs.length) with hlt | hge
 ·have d1:decide ((t:Int)<(cs.length:Int))=true:=decide_eq_true (by omega)
  have w3:IntKind.i64.wrap ((t:Int)+1)=((t+1:Nat):Int):=by rw[an _ (by omega) (by omega)];omega
  obtain⟨⟨c1,c2,c3,c4⟩,hx⟩:∃ c,cs[t]?=some c:=⟨_,agT hlt⟩;have hrc:=hr _ (ahg hx);dsimp only at hrc;obtain⟨c1,rfl⟩:∃ k:Nat,c1=(k:Int):=⟨c1.toNat,by omega⟩
  obtain⟨c3,rfl⟩:∃ k:Nat,c3=(k:Int):=⟨c3.toNat,by omega⟩
  have htk:cs.take (t+1)=cs.take t++[((c1:Int),c2,(c3:Int),c4)]:=by rw[List.take_add_one,hx];rfl
  generalize hl:cs.take t=l at *;have hll:l.length≤12:=by rw[←hl,List.length_take];omega
  have hc1:c1<cash.length:=by omega
  have hc3:c3<10:=by omega
  have hrow:=hat.row;have hblk:=hat.blk c1 hc1;have hri:=nE (cX (fun i=>MV.ptr (228500+i) (gs i) 0) hc1);have hrl:(fL cash.length fun i=>MV.ptr (228500+i) (gs i) 0).length=cash.length:=bU _ _;have hlen:=tp (cash.getD c1 0) (cM l gg c1) (fun k=>aP l c1 (k:Nat)) 10 false;have qc:=Ow (c:=cash.getD c1 0) (q:=cM l gg c1) (us:=fun k=>aP l c1 (k:Nat)) (f:=10) (p:=false) hc3;have qs:=fun v=>(lB (l:=opB (cash.getD c1 0) (cM l gg c1) (fun k=>aP l c1 (k:Nat)) 10 false) (k:=1+c3) (v:=v) (by rw[tp];omega)).trans (vK hc3 v)
  have l1:c1+1≤cash.length:=by omega
  have l3:(1+c3+1≤24)=True:=eq_true (by omega);have w1:IntKind.i64.wrap ((c3:Int)+1)=((c3+1:Nat):Int):=by rw[an _ (by omega) (by omega)];omega
  generalize hRW:(fL cash.length fun i=>MV.ptr (228500+i) (gs i) 0)=RW at *;generalize hDD:opB (cash.getD c1 0) (cM l gg c1) (fun k=>aP l c1 (k:Nat)) 10 false=DC at *;generalize hKd:228500+c1=KK at *;have n9:(KK=228009)=False:=eq_false (by omega);have n48:(KK=228048)=False:=eq_false (by omega);have b9:(KK==228009)=false:=beq_eq_false_iff_ne.2 (by omega);have b9':(228009==KK)=false:=beq_eq_false_iff_ne.2 (by omega);have b48:(KK==228048)=false:=beq_eq_false_iff_ne.2 (by omega);have b48':(228048==KK)=false:=beq_eq_false_iff_ne.2 (by omega);have hml:(1≤maxLen)=True:=eq_true (by decide);have hUb:=fun j=>(Fm hs.right).upto c1 j
  have hub:∀ j:Nat,0≤aP l c1 (j:Nat)∧aP l c1 (j:Nat)≤4000000000000000000:=fun j=>by
   have:=(Fm hs.right).sum (fun c=>c.1=(c1:Int)∧c.2.2.1<(j:Int)) t;rw[hl] at this;unfold aP;omega
  generalize hEd:228600+10*c1+c3=EK at *;have a1:(228009=KK)=False:=eq_false (by omega);have a2:(228009=EK)=False:=eq_false (by omega);have a3:(228048=EK)=False:=eq_false (by omega);have a4:(228048=KK)=False:=eq_false (by omega);have a5:(EK=KK)=False:=eq_false (by omega);have a6:(KK=EK)=False:=eq_false (by omega);have a7:(EK=228009)=False:=eq_false (by omega);have a8:(EK=228048)=False:=eq_false (by omega);have a9:(228009=228048)=False:=eq_false (by omega)
  have tail:∀ (tm':Nat→MV) (M2:Mem) (gn g9:Nat),tm' 5 = .ref 228023 g 1 0 cash.length→tm' 25 = .dat (.sl (cs.map clL))→tm' 26 = .dat (.int .i64 cs.length)→tm' 27 = .dat (.int .i64 t)→M2 KK=some (gs c1,opB (cash.getD c1 0) (fun k=>if k=c3 then .ref EK gn 4 0 ((aX l c1 c3).length+1) else cM l gg c1 k) (fun k=>aP l c1 (k:Nat)  + if c3<k then c4 else 0) 10 false)→M2 EK=some (gn,aC clL (aX l c1 c3++[((c1:Int),c2,(c3:Int),c4)]))→(∀ k:Nat,k≠228009→k≠228048→k≠KK→k≠EK→M2 k=m k)→OpAt cash (cs.take (t+1)) g gs (fun i k=>if i=c1∧k=c3 then gn else gg i k) M2∧FrK 228 mem0 M2:=by
   intro tm' M2 gn g9 k5 k25 k26 k27 hMK hME hMo;rw[htk];refine⟨OpAt.next hat hn hc1 hc3 gn ?_ (fun i hi hne=>?_) ?_ ?_ fun i k hi hk hne=>?_,fun k hk=>?_⟩
   ·exact hMo 228023 (by omega) (by omega) (by omega) (by omega)
   ·exact hMo (228500+i) (by omega) (by omega) (by omega) (by omega)
   ·rw[hKd,hEd];exact hMK
   ·rw[hEd];exact hME
   ·exact hMo (228600+10*i+k) (by omega) (by omega) (by omega) (by omega)
   ·rw[hMo k (by omega) (by omega) (by omega) (by omega)]
    exact hfr k hk
  by_cases hce:aX l c1 c3=[]
  ·have hcm:cM l gg c1 c3 = .nil:=by unfold cM;rw[if_pos hce]
   rw[hcm] at qc;simp only[go_sem,go_sem_proc,agL,hml,e5,e25,e26,e27,hx,hrow,hblk,hri,hrl,hlen,qc,qs,d1,l1,l3,hc1,hc3,n9,n48,b9,b9',b48,b48',clL,agO,agX,agY];refine rY (MoveS.mref KK (gs c1) _ (1+c3) 228048 (cT (m 228048)) 4 0 1 _ EK cn (yJ hc3 |>.trans (by rw[if_pos rfl])) ((aJ (by omega)).trans cn) (by show (228048:Nat)≠KK;omega) (by show EK≠(228048:Nat);omega) (by show EK≠KK;omega)) ?_;intro M2 hM2;rw[vK hc3] at hM2
   have hM9:M2 228009=some (cT (m 228009),[.dat (.int .i64 c1),.dat (.int .i64 c2),.dat (.int .i64 c3),.dat (.int .i64 c4)]):=by
    rw[hM2];simp only[lI,a1,a2,a9,if_false,if_true]
   have hMK:∃ gn,M2 KK=some (gs c1,opB (cash.getD c1 0) (fun k=>if k=c3 then .ref EK gn 4 0 ((aX l c1 c3).length+1) else cM l gg c1 k) (fun k=>aP l c1 (k:Nat)) 10 false)∧M2 EK=some (gn,aC clL (aX l c1 c3++[((c1:Int),c2,(c3:Int),c4)])):=by
    rw[hce];apply Exists.intro;apply And.intro
    rotate_left
    ·rw[hM2];simp only[lI,a5,if_false,if_true];rfl
    ·rw[hM2];simp only[lI,if_true]
     congr 2
     refine gQ (fun k _=>?_) fun _ _=>rfl
     by_cases hk:k=c3
     ·rw[if_pos hk,if_pos hk];rfl
     ·rw[if_neg hk,if_neg hk,if_neg hk]
   obtain⟨gn,hMK,hME⟩:=hMK
   have hMo:∀ k:Nat,k≠228009→k≠228048→k≠KK→k≠EK→M2 k=m k:=fun k h1 h2 h3 h4=>by
    rw[hM2];simp only[lI,h1,h2,h3,h4,if_false]
   clear hM2;simp only[go_sem,go_sem_proc,agL,hM9,w1,a1];refine NO T M2 KK (gs c1) (cT (m 228009)) (cash.getD c1 0) (fun k=>if k=c3 then .ref EK gn 4 0 ((aX l c1 c3).length+1) else cM l gg c1 k) (fun k=>aP l c1 (k:Nat)) c1 c2 c3 c4 hc3 hub (by omega) (by omega) (.ref 228023 g 1 0 cash.length) (.dat (.sl (cs.map clL))) (.dat (.int .i64 cs.length)) (.dat (.int .i64 t)) _ _ ?_ ?_ ?_ ?_ ?_ ?_ ?_ hM9 hMK (fun _ _=>rfl) ?_
   all_goals first | (intro tm' m' k5 k25 k26 k27 qK qo) | (simp only[aR,agP,if_false,if_true,e5,e25,e26,e27];done)
   have hfin:=tail tm' m' gn 0 k5 k25 k26 k27 qK (by rw[qo EK (by omega)];exact hME) fun k h1 h2 h3 h4=>by rw[qo k h3];exact hMo k h1 h2 h3 h4
   refine qI ?_
   repeat' (intro h<;>simp only[h,go_sem,go_sem_proc,agL,k5,k25,k26,k27,w3]<;>try refine qS ?_ ?_)
   exact⟨(t+1,fun i k=>if i=c1∧k=c3 then gn else gg i k),by dsimp only;omega,by dsimp only;omega,rfl,hfin.1,hfin.2⟩
  ·have hcm:cM l gg c1 c3 = .ref EK (gg c1 c3) 4 0 (aX l c1 c3).length:=by unfold cM;rw[if_neg hce,hEd]
   rw[hcm] at qc;have hcel:=hat.cel c1 c3 hc1 hc3 hce;rw[hEd] at hcel;have hcl:(aX l c1 c3).length≤12:=agI (agJ _ _) hll;have hap:=dl lH tk EK (gg c1 c3) 32 (aX l c1 c3) ((c1:Int),c2,(c3:Int),c4) (cs:=[.dat (.int .i64 c1),.dat (.int .i64 c2),.dat (.int .i64 c3),.dat (.int .i64 c4)]) rfl (by omega) (by omega);have b7:(EK==228009)=false:=beq_eq_false_iff_ne.2 (by omega);have b7':(228009==EK)=false:=beq_eq_false_iff_ne.2 (by omega);have b8:(EK==KK)=false:=beq_eq_false_iff_ne.2 (by omega);have b8':(KK==EK)=false:=beq_eq_false_iff_ne.2 (by omega);simp only[go_sem,go_sem_proc,agL,hml,e5,e25,e26,e27,hx,hrow,hblk,hri,hrl,hlen,qc,qs,d1,l1,l3,hc1,hc3,n9,n48,b9,b9',b48,b48',a3,a5,a6,a7,a8,b7,b7',b8,b8',hcel,hap,clL,agO,agX,agY];refine rS ?_;intro M2 hM2
   have hM9:M2 228009=some (cT (m 228009),[.dat (.int .i64 c1),.dat (.int .i64 c2),.dat (.int .i64 c3),.dat (.int .i64 c4)]):=by
    rw[hM2];simp only[lI,a1,a2,a9,if_false,if_true]
   have hMK:M2 KK=some (gs c1,opB (cash.getD c1 0) (fun k=>if k=c3 then .ref EK (gg c1 c3+1) 4 0 ((aX l c1 c3).length+1) else cM l gg c1 k) (fun k=>aP l c1 (k:Nat)) 10 false):=by
    rw[hM2];simp only[lI,if_true]
   have hME:M2 EK=some (gg c1 c3+1,aC clL (aX l c1 c3++[((c1:Int),c2,(c3:Int),c4)])):=by
    rw[hM2];simp only[lI,a5,if_false,if_true]
   have hMo:∀ k:Nat,k≠228009→k≠228048→k≠KK→k≠EK→M2 k=m k:=fun k h1 h2 h3 h4=>by
    rw[hM2];simp only[lI,h1,h3,h4,if_false]
   clear hM2;simp only[go_sem,go_sem_proc,agL,hM9,w1,a1];refine NO T M2 KK (gs c1) (cT (m 228009)) (cash.getD c1 0) (fun k=>if k=c3 then .ref EK (gg c1 c3+1) 4 0 ((aX l c1 c3).length+1) else cM l gg c1 k) (fun k=>aP l c1 (k:Nat)) c1 c2 c3 c4 hc3 hub (by omega) (by omega) (.ref 228023 g 1 0 cash.length) (.dat (.sl (cs.map clL))) (.dat (.int .i64 cs.length)) (.dat (.int .i64 t)) _ _ ?_ ?_ ?_ ?_ ?_ ?_ ?_ hM9 hMK (fun _ _=>rfl) ?_
   all_goals first | (intro tm' m' k5 k25 k26 k27 qK qo) | (simp only[aR,agP,if_false,if_true,e5,e25,e26,e27];done)
   have hfin:=tail tm' m' (gg c1 c3+1) 0 k5 k25 k26 k27 qK (by rw[qo EK (by omega)];exact hME) fun k h1 h2 h3 h4=>by rw[qo k h3];exact hMo k h1 h2 h3 h4
   refine qI ?_
   repeat' (intro h<;>simp only[h,go_sem,go_sem_proc,agL,k5,k25,k26,k27,w3]<;>try refine qS ?_ ?_)
   exact⟨(t+1,fun i k=>if i=c1∧k=c3 then gg c1 c3+1 else gg i k),by dsimp only;omega,by dsimp only;omega,rfl,hfin.1,hfin.2⟩
 ·have d1:decide ((t:Int)<(cs.length:Int))=false:=decide_eq_false (by omega)
  rw[ahh (by omega)] at hat;refine qI ?_
  repeat' (intro h<;>simp only[h,go_sem,go_sem_proc,agL,e5,e25,e26,e27,d1]<;>try refine qS ?_ ?_)
  refine hK _ _ gg ?_ hat hfr;simp only[aR,agP,if_false,e5]
theorem Moves.trans {a b c:Mem} (h:Moves a b) (h':Moves b c):Moves a c:=by
 induction h with
 | refl=>exact h'
 | step h1 _ ih=>exact .step h1 (ih h')
theorem Ch {K:St→Prop} {tm:Nat→MV} {mem mem':Mem} (h:Moves mem mem') (hK:K ⟨tm,mem'⟩):dW K ⟨tm,mem⟩ .many:=⟨mem',h,hK⟩
def cF (l:List ClR) (gg:Nat→Nat→Nat) (d i k:Nat):MV:=if 10*i+k<d then clM (aX l i k) else cM l gg i k
structure OpF (cash:List Int) (l:List ClR) (g:Nat) (gs:Nat→Nat) (gg:Nat→Nat→Nat) (d:Nat) (m:Mem):Prop where
 row:m 228023=some (g,fL cash.length fun i => .ptr (228500+i) (gs i) 0)
 blk:∀ i,i<cash.length→m (228500+i)=some (gs i,opB (cash.getD i 0) (cF l gg d i) (fun k=>aP l i (k:Nat)) 10 false)
 cel:∀ i k,i<cash.length→k<10→d≤10*i+k→aX l i k≠[]→m (228600+10*i+k)=some (gg i k,aC clL (aX l i k))
theorem OpF.step {cash:List Int} {l:List ClR} {g:Nat} {gs:Nat→Nat} {gg:Nat→Nat→Nat} {d:Nat} {m:Mem} (h:OpF cash l g gs gg d m) (hn:cash.length≤5) (hd:d<10*cash.length):∃ m',Moves m m'∧OpF cash l g gs gg (d+1) m'∧FrK 228 m m':=by
 obtain⟨i,k,hi,hk,rfl⟩:∃ i k,i<cash.length∧k<10∧d=10*i+k:=⟨d / 10,d % 10,by omega,by omega,by omega⟩
 have hother:∀ j r,j<cash.length→r<10→¬ (j=i∧r=k)→cF l gg (10*i+k+1) j r=cF l gg (10*i+k) j r:=fun j r hj hr hne=>by
  unfold cF
  by_cases h1:10*j+r<10*i+k
  ·rw[if_pos h1,if_pos (by omega)]
  ·rw[if_neg h1,if_neg (by omega)]
 by_cases hc:aX l i k=[]
 ·refine⟨m,.refl m,⟨h.row,fun j hj=>?_,fun j r hj hr hd hne=>h.cel j r hj hr (by omega) hne⟩,FrK.refl _ _⟩
  rw[h.blk j hj]
  congr 2
  refine gQ (fun r hr=>?_) fun _ _=>rfl
  by_cases hjr:j=i∧r=k
  ·obtain⟨rfl,rfl⟩:=hjr
   unfold cF;rw[if_neg (by omega),if_pos (by omega)];unfold cM clM;rw[if_pos hc,if_pos hc]
  ·exact (hother j r hj hr hjr).symm
 ·have hb:=h.blk i hi
  have hcl:=h.cel i k hi hk (agK _) hc
  have hcf:cF l gg (10*i+k) i k = .ref (228600+10*i+k) (gg i k) 4 0 (aX l i k).length:=by
   unfold cF;rw[if_neg (by omega)];unfold cM;rw[if_neg hc]
  have hget:=yJ (c:=cash.getD i 0) (q:=cF l gg (10*i+k) i) (us:=fun k=>aP l i (k:Nat)) (f:=10) (p:=false) hk;rw[hcf] at hget;have htd:toD 1 m (.ref (228600+10*i+k) (gg i k) 4 0 (aX l i k).length)=some (.sl ((aX l i k).map clL)):=eO (n:=0) lH hcl;refine⟨_,.step (MoveS.mfrz (228500+i) (gs i) _ (1+k) (228600+10*i+k) (gg i k) 4 0 (aX l i k).length _ (.sl ((aX l i k).map clL)) hb hget hcl (by show (228600+10*i+k:Nat)≠228500+i;omega) htd) (.refl _),⟨?_,fun j hj=>?_,fun j r hj hr hd hne=>?_⟩,fun x hx=>?_⟩
  ·rw[aJ (by show (228023:Nat)≠228500+i;omega)]
   unfold kill;rw[aJ (by show (228023:Nat)≠228600+10*i+k;omega)];exact h.row
  ·by_cases hji:j=i
   ·subst hji
    rw[cn,vK hk]
    congr 2
    refine gQ (fun r hr=>?_) fun _ _=>rfl
    by_cases hrk:r=k
    ·subst hrk
     rw[if_pos rfl];unfold cF;rw[if_pos (by omega)];unfold clM;rw[if_neg hc]
    ·rw[if_neg hrk]
     exact (hother j r hj hr (by omega)).symm
   ·rw[aJ (by show (228500+j:Nat)≠228500+i;omega)]
    unfold kill;rw[aJ (by show (228500+j:Nat)≠228600+10*i+k;omega),h.blk j hj]
    congr 2
    refine gQ (fun r hr=>(hother j r hj hr (by omega)).symm) fun _ _=>rfl
  ·rw[aJ (by show (228600+10*j+r:Nat)≠228500+i;omega)]
   unfold kill;rw[aJ (by show (228600+10*j+r:Nat)≠228600+10*i+k;omega)];exact h.cel j r hj hr (by omega) hne
  ·have hx':x / 1000≠228:=hx
   rw[aJ (by show x≠228500+i;omega)];unfold kill;rw[aJ (by show x≠228600+10*i+k;omega)]
theorem OpF.all {cash:List Int} {l:List ClR} {g:Nat} {gs:Nat→Nat} {gg:Nat→Nat→Nat} (hn:cash.length≤5):∀ r d m,d+r=10*cash.length→OpF cash l g gs gg d m→∃ m',Moves m m'∧OpF cash l g gs gg (10*cash.length) m'∧FrK 228 m m'
 | 0,d,m,hd,h=>⟨m,.refl m,by rw[←hd];exact h,FrK.refl _ _⟩
 | r+1,d,m,hd,h=>by
  obtain⟨m1,h1,h2,h3⟩:=h.step hn (by omega);obtain⟨m2,k1,k2,k3⟩:=OpF.all hn r (d+1) m1 (by omega) h2;exact⟨m2,h1.trans k1,k2,fun x hx=>(k3 x hx).trans (h3 x hx)⟩
theorem OpAt.toF {cash:List Int} {l:List ClR} {g:Nat} {gs:Nat→Nat} {gg:Nat→Nat→Nat} {m:Mem} (h:OpAt cash l g gs gg m):OpF cash l g gs gg 0 m :=
 ⟨h.row,fun i hi=>by
  rw[h.blk i hi]
  congr 2,fun i k hi hk _ hne=>h.cel i k hi hk hne⟩
def opA (cash:List Int) (cs:List ClR) (g:Nat) (gs:Nat→Nat):DebA:=⟨cash,aI cash.length cs,fL cash.length fun _=>10,bL cash.length fun _=>false,g,fL cash.length gs⟩
theorem BN {cash:List Int} {cs:List ClR} (h:SmallD cash cs) (i r:Nat):aP (aI cash.length cs) i r=aP cs i r:=by
 have h1:=dQ h.right i r;have h2:=dQ (mV h).right i r;rw[←(qa h.right).U,←h1] at h2
 exact_mod_cast h2
theorem kq {α:Type} {n i:Nat} (q:Nat→α) (d:α) (h:i<n):(fL n q).getD i d=q i:=by
 rw[agU,cX q h];rfl
theorem OpF.at {cash:List Int} {cs:List ClR} (hs:SmallD cash cs) {g:Nat} {gs:Nat→Nat} {gg:Nat→Nat→Nat} {m:Mem} (h:OpF cash cs g gs gg (10*cash.length) m):(opA cash cs g gs).At m:=by
 refine⟨(yd _ _).symm,bU _ _,yE _ _,bU _ _,?_,fun i hi=>?_⟩
 ·refine h.row.trans ?_
  congr 2
  exact ca fun i hi=>by
   show MV.ptr (228500+i) (gs i) 0=MV.ptr (228500+i) ((fL cash.length gs).getD i 0) 0;rw[kq gs 0 hi]
 ·have hi':i<cash.length:=hi
  refine (h.blk i hi').trans ?_;have e1:(opA cash cs g gs).gs.getD i 0=gs i:=kq gs 0 hi';rw[e1]
  congr 2
  have e2:(fL cash.length fun _=>(10:Int)).getD i 10=10:=kq _ _ hi';have e3:(bL cash.length fun _=>false).getD i false=false:=by rw[agU,xV _ hi'];rfl
  have e4:dJ ((opA cash cs g gs).deb i)=iC (cash.getD i 0)::((fL 10 fun k=>aX (aI cash.length cs) i k).map clM++((fL 11 fun k=>aP (aI cash.length cs) i (k:Nat)).map iC++[iC ((fL cash.length fun _=>(10:Int)).getD i 10),bC ((bL cash.length fun _=>false).getD i false)])):=rfl;rw[e4,e2,e3];unfold opB
  have e5:(fL 10 fun k=>aX (aI cash.length cs) i k).map clM=fL 10 (cF cs gg (10*cash.length) i):=by
   unfold fL;rw[List.map_map];refine List.map_congr_left fun k hk=>?_
   have hk':=List.mem_range.1 hk
   show clM (aX (aI cash.length cs) i k)=cF cs gg (10*cash.length) i k;rw[vu cs hi' hk'];unfold cF;rw[if_pos (by omega)]
  have e6:(fL 11 fun k=>aP (aI cash.length cs) i (k:Nat))=fL 11 fun k=>aP cs i (k:Nat):=ca fun k _=>BN hs i k
  rw[e5,e6]
theorem Eo {α:Type} (n:Nat) (q:Nat→α):fL (n+1) q=fL n q++[q n]:=by
 unfold fL;rw[agD,agZ];rfl
structure OnQ (x:List Int × List ClR) (mem:Mem):Prop where
 sm:SmallD x.1 x.2
 no:NoK 228 mem
def Jy (x:List Int × List ClR) (mem:Mem):MV→Mem→Prop:=fun m mem'=>∃ g gs,m = .ref 228023 g 1 0 x.1.length∧(opA x.1 x.2 g gs).At mem'∧FrK 228 mem mem'
noncomputable def zt:List MV→Mem→Option (MV→Mem→Prop):=QQ (fun (x:List Int × List ClR) args mem=>args=[.dat (.sl (x.1.map aa)),.dat (.sl (x.2.map clL))]∧OnQ x mem) Jy
theorem Dv (cash:List Int) (cs:List ClR) (mem:Mem) (h:OnQ (cash,cs) mem):zt [.dat (.sl (cash.map aa)),.dat (.sl (cs.map clL))] mem=some (Jy (cash,cs) mem):=by
 refine Jk (a:=(cash,cs)) ?_ ⟨rfl,h⟩;rintro⟨a,b⟩ ⟨c,d⟩ args mem ⟨e1,e2⟩ ⟨e3,e4⟩;rw[e1] at e3;simp only[List.cons.injEq,MV.dat.injEq,Data.sl.injEq,and_true] at e3;obtain⟨h1,h2⟩:=e3;rw[af aj _ _ h1,af fj _ _ h2]
def noM (_:Nat):MV:=.nil
def zI (_:Nat):Int:=0
theorem LI (T:Tab) (cash:List Int) (cs:List ClR) (mem:Mem) (ha:OnQ (cash,cs) mem) :
  wp T mf_clear_open.body (rh mf_clear_open.res (Jy (cash,cs) mem)) ⟨ax [.dat (.sl (cash.map aa)),.dat (.sl (cs.map clL))],mem⟩:=by
 obtain⟨hs,hno⟩:=ha;dsimp only at hs;have hn:=hs.n5;have h23:mem 228023=none:=hno 228023 (by decide);refine ap ?_;simp only[mf_clear_open];simp only[go_sem,go_sem_proc,agL,h23,agX]
 refine ae [1,12,13] [] (fun ((i,g,gs):Nat × Nat × (Nat→Nat)) tm m=>i≤cash.length∧tm 14 = .dat (.int .i64 i)∧tm 5 = .ref 228023 g 1 0 i∧m 228023=some (g,fL i fun j => .ptr (228500+j) (gs j) 0)∧(∀ j,j<i→m (228500+j)=some (gs j,opB (cash.getD j 0) noM zI 10 false))∧FrK 228 mem m) (fun (i,_)=>cash.length-i) (0,0,fun _=>0) (by
  refine⟨by omega,rfl,rfl,by simp [ay];rfl,fun j hj=>by omega,(FrK.refl _ _).upd (by decide)⟩) ?_
 intro vs ms hvs hms;simp only[go_sem,go_sem_proc,agL] at hvs hms;subst hvs hms;rintro⟨i,g,gs⟩ tm m hk-⟨hi,e14,e5,hrow,hblk,hfr⟩;simp only[go_sem,go_sem_proc,agL,List.cons.injEq] at hk;obtain⟨e1,e12,e13⟩:=hk;rcases agM (i<cash.length) with hlt | hge
 ·have d1:decide ((i:Int)<(cash.length:Int))=true:=decide_eq_true (by omega)
  have w3:IntKind.i64.wrap ((i:Int)+1)=((i+1:Nat):Int):=by rw[an _ (by omega) (by omega)];omega
  obtain⟨y,hy⟩:∃ y,cash[i]?=some y:=⟨_,agT hlt⟩;have hyd:cash.getD i 0=y:=by rw[agU,hy];rfl
  have hrl:(fL i fun j=>MV.ptr (228500+j) (gs j) 0).length=i:=bU _ _;have htk:ag2 i (fL i fun j=>MV.ptr (228500+j) (gs j) 0)=fL i fun j=>MV.ptr (228500+j) (gs j) 0:=ahh (by omega)
  have l1:((i+1)*8≤140737488355328)=True:=eq_true (by omega);have l2:(i+1≤maxLen)=True:=eq_true (by unfold maxLen;omega);have l3:(i≤i)=True:=eq_true (agK _)
  have hap:ln 228023 g 1 i 8 1 [.ptr 228021 (cT (m 228021)) 0] (some (g,fL i fun j=>MV.ptr (228500+j) (gs j) 0))=some (.ref 228023 (g+1) 1 0 (i+1),some (228023,g+1,(fL i fun j=>MV.ptr (228500+j) (gs j) 0)++[.ptr 228021 (cT (m 228021)) 0])):=by
   unfold ln;dsimp only;rw[if_pos ⟨rfl,by rw[bU];omega,by omega,by unfold maxLen;omega,rfl⟩,agO,htk]
  generalize hRW:(fL i fun j=>MV.ptr (228500+j) (gs j) 0)=RW at *;simp only[go_sem,go_sem_proc,agL,e1,e5,e12,e13,e14,hrow,hy,hrl,hap,d1,aa,agO,agX,agY]
  have hcx:(RW++[MV.ptr 228021 (cT (m 228021)) 0])[i]?=some (.ptr 228021 (cT (m 228021)) 0):=by
   rw[ahb (by omega),hrl];simp
  have a1:(228021=228022)=False:=eq_false (by decide);refine rY (MoveS.mptr 228023 (g+1) _ i 228021 (cT (m 228021)) 0 _ (228500+i) cn hcx ((aJ (by decide)).trans ((aJ (by decide)).trans cn)) (by decide) (by show (228500+i:Nat)≠228021;omega) (by show (228500+i:Nat)≠228023;omega)) ?_;intro M2 hM2
  have hset:∀ p,(RW++[MV.ptr 228021 (cT (m 228021)) 0]).set i p=RW++[p]:=fun p=>by
   rw[ahe _ _ (by omega),hrl,Nat.sub_self];rfl
  rw[hset] at hM2
  obtain⟨gi,hM23,hMi⟩:∃ gi,M2 228023=some (g+1,RW++[.ptr (228500+i) gi 0])∧M2 (228500+i)=some (gi,opB y noM zI 10 false):=by
   apply Exists.intro;apply And.intro
   rotate_left
   ·rw[hM2,aJ (by show (228500+i:Nat)≠228023;omega),cn];rfl
   ·rw[hM2,cn]
  have hMo:∀ k:Nat,k≠228021→k≠228022→k≠228023→k≠228500+i→M2 k=m k:=fun k h1 h2 h3 h4=>by
   rw[hM2,aJ h3,aJ h4,aJ h1,aJ h3,aJ h2,aJ h1]
  clear hM2
  have hnx:RW++[MV.ptr (228500+i) gi 0]=fL (i+1) fun j => .ptr (228500+j) (if j=i then gi else gs j) 0:=by
   rw[Eo,if_pos rfl,←hRW]
   congr 1
   exact ca fun j hj=>by rw[if_neg (by omega)]
  rw[hnx] at hM23;refine qI ?_
  repeat' (intro h<;>simp only[h,go_sem,go_sem_proc,agL,e1,e12,e13,e14,w3]<;>try refine qS ?_ ?_)
  refine⟨(i+1,g+1,fun j=>if j=i then gi else gs j),by dsimp only;omega,by dsimp only;omega,rfl,rfl,hM23,fun j hj=>?_,fun k hk=>?_⟩
  ·by_cases hji:j=i
   ·subst hji
    dsimp only;rw[if_pos rfl,hMi,hyd]
   ·dsimp only
    rw[if_neg hji,hMo (228500+j) (by omega) (by omega) (by omega) (by omega)];exact hblk j (by dsimp only at hj;omega)
  ·rw[hMo k (by omega) (by omega) (by omega) (by omega)]
   exact hfr k hk
 ·have d1:decide ((i:Int)<(cash.length:Int))=false:=decide_eq_false (by omega)
  obtain rfl:i=cash.length:=by omega
  simp only[go_sem,go_sem_proc,agL,e1,e5,e12,e13,e14,d1,agX];refine Rp T mem cash cs hs g gs (fun _ _=>0) _ _ ?_ ?_ ?_ ?_ ⟨hrow,fun j hj=>?_,fun j k hj hk hne=>absurd rfl hne⟩ hfr ?_
  all_goals first | (intro tm' m' gg k5 hat hfr') | (simp only[aR,agP,if_false,if_true,e1,e5];done) | skip
  ·rw[hblk j hj]
   congr 2
  obtain⟨m2,h1,h2,h3⟩:=OpF.all hn (10*cash.length) 0 m' (by omega) hat.toF;simp only[go_sem,go_sem_proc,agL];refine Ch h1 ?_;refine qI ?_
  repeat' (intro h<;>simp only[h,go_sem,go_sem_proc,agL,k5]<;>try refine qS ?_ ?_)
  exact⟨_,rfl,g,gs,rfl,h2.at hs,fun k hk=>(h3 k hk).trans (hfr' k hk)⟩
def Lr (l:List ClR) (r:Int):Int:=bt l fun c=>if c.2.2.1<r then c.2.2.2 else 0
def Sr (l:List ClR) (r:Int):Int:=bt l fun c=>if c.2.2.1=r then c.2.2.2 else 0
theorem E3 (l:List ClR) (r:Int):Lr l (r+1)=Lr l r+Sr l r:=by
 unfold Lr Sr;rw[←uh];refine jp fun c _=>?_
 by_cases h1:c.2.2.1<r
 ·rw[if_pos h1,if_pos (by omega),if_neg (by omega)];omega
 ·by_cases h2:c.2.2.1=r
  ·rw[if_pos (by omega),if_neg h1,if_pos h2];omega
  ·rw[if_neg (by omega),if_neg h1,if_neg h2];rfl
noncomputable def dj (l:List ClR) (x:Rat) (k:Nat):Rat:=pos (x-((Lr l k:Int):Rat))
theorem OwnOK.Sr_nonneg {l:List ClR} (h:OwnOK l) (r:Int):0≤Sr l r∧Sr l r≤536870912:=h.bound fun c=>c.2.2.1=r
theorem OwnOK.Lr_nonneg {l:List ClR} (h:OwnOK l) (r:Int):0≤Lr l r∧Lr l r≤536870912:=h.bound fun c=>c.2.2.1<r
theorem BL (l:List ClR) (x:Rat) (k:Nat):0≤dj l x k:=jA _
theorem GC {l:List ClR} (h:OwnOK l) {x:Rat} (hx:0≤x):dj l x 0=x:=by
 have:Lr l (0:Nat)=0:=by
  unfold Lr
  have:(bt l fun c=>if c.2.2.1<((0:Nat):Int) then c.2.2.2 else 0)=bt l fun _=>0:=jp fun c hc=>by
   have:=(h.c c hc).2.2.2.2.1;rw[if_neg (by omega)]
  rw[this];clear h this
  induction l with
  | nil=>rfl
  | cons c l ih=>simp only[bt,ih];omega
 unfold dj;rw[this,ka]<;>grind
theorem Ca {l:List ClR} (h:OwnOK l) {x:Rat} {k:Nat} (he:((Sr l k:Int):Rat)≤dj l x k):dj l x (k+1)=dj l x k-((Sr l k:Int):Rat):=by
 have h1:=E3 l k;have h0:=(h.Sr_nonneg k).1;have h0':(0:Rat)≤((Sr l k:Int):Rat):=by exact_mod_cast h0
 unfold dj at *;rw[show ((k+1:Nat):Int)=(k:Int)+1 by omega,h1,ahi]
 by_cases hp:x-((Lr l k:Int):Rat)≤0
 ·have e1:=gk hp
  rw[e1] at he ⊢;rw[gk (by grind)];grind
 ·have e1:=ka (x:=x-((Lr l k:Int):Rat)) (by grind)
  rw[e1] at he ⊢;rw[ka (by grind)];grind
theorem H5 {l:List ClR} {x:Rat} {k:Nat} (he:¬ ((Sr l k:Int):Rat)≤dj l x k):dj l x (k+1)=0:=by
 have h1:=E3 l k;have h2:=xF (x-((Lr l k:Int):Rat));unfold dj at *;rw[show ((k+1:Nat):Int)=(k:Int)+1 by omega,h1,ahi,gk (by grind)]
section
variable {l:List ClR} (h:OwnOK l) {x:Rat} {k:Nat} {c:ClR} (hc:c∈l) (hk:c.2.2.1=k)
include h hc hk
theorem E7:aP l c.1 c.2.2.1=Lr l k∧SI l c.1 c.2.2.1=Sr l k:=by
 rw[hk];exact⟨(h.less hc k).symm,(h.same hc k).symm⟩
theorem DN (he:((Sr l k:Int):Rat)≤dj l x k):cg l x c=(c.2.2.2:Rat):=by
 obtain⟨e1,e2⟩:=E7 h hc hk;have hn:∀ c∈l,0≤c.2.2.2:=fun c hc=>(h.c c hc).2.2.2.2.2.2.1
 by_cases hp:x-((Lr l k:Int):Rat)≤0
 ·have h0:dj l x k=0:=gk hp
  rw[h0] at he;have hS:Sr l k≤0:=by exact_mod_cast he
  have ha:=As hn hc;rw[e2] at ha;have ha0:=hn c hc;rw[ws hn hc (by rw[e1];exact hp),show c.2.2.2=0 by omega];rfl
 ·refine Im ?_
  rw[e1,e2];unfold dj at he
  rwa [ka (by grind)] at he
theorem LM (he:¬ ((Sr l k:Int):Rat)≤dj l x k):cg l x c=(c.2.2.2:Rat)*dj l x k / ((Sr l k:Int):Rat):=by
 obtain⟨e1,e2⟩:=E7 h hc hk;have hn:∀ c∈l,0≤c.2.2.2:=fun c hc=>(h.c c hc).2.2.2.2.2.2.1
 by_cases hp:x-((Lr l k:Int):Rat)≤0
 ·have h0:dj l x k=0:=gk hp
  rw[ws hn hc (by rw[e1];exact hp),h0,Rat.mul_zero,Rat.div_def,Rat.zero_mul]
 ·have h0:dj l x k=x-((Lr l k:Int):Rat):=ka (by grind)
  rw[HD (by rw[e1];grind) (by rw[e1,e2,←h0];grind),e1,e2,h0]
end
theorem Fj {l:List ClR} {x:Rat} (h:p6 l x) (k:Nat):szR 490 (dj l x k):=by
 have hL:=h.own.Lr_nonneg k;unfold dj pos
 split
 ·exact (show szR 1 0 from⟨by decide,by decide⟩).mono (by omega)
 ·rw[Rat.sub_eq_add_neg]
  exact (JX h.sz (nu (nz (z:=Lr l k) (b:=29) (by omega)))).mono (by omega)
noncomputable def rF:List Data→Option PRes:=FF (α:=Int × Int × Int) (fun (x,a,b)=>([.int .i64 x,.int .i64 a,.int .i64 b]:List Data)) (fun (x,a,b)=>some (.same (.bool (decide (a≤x)&&decide (x≤b)))))
theorem vU:∀ a b:Int × Int × Int,(fun (x,a,b)=>([.int .i64 x,.int .i64 a,.int .i64 b]:List Data)) a=(fun (x,a,b)=>([.int .i64 x,.int .i64 a,.int .i64 b]:List Data)) b→a=b:=by
  rintro⟨x1,a1,b1⟩ ⟨x2,a2,b2⟩ h;simp only[List.cons.injEq,Data.int.injEq,Data.agg.injEq,Data.sl.injEq,Data.bool.injEq,Data.str.injEq,Data.ptr.injEq,Data.tup.injEq,Prod.mk.injEq,true_and,and_true] at h ⊢
  first | exact h | simpa [Prod.ext_iff,and_assoc] using h | grind
@[go_sem] theorem MJ (x:Int) (a:Int) (b:Int):rF [.int .i64 x,.int .i64 a,.int .i64 b]=some (.same (.bool (decide (a≤x)&&decide (x≤b)))):=aY vU (x,a,b)
theorem HT (T:Tab)  (x:Int) (a:Int) (b:Int) :
  wp T mf_rank_within.body (bF mf_rank_within.res (.same (.bool (decide (a≤x)&&decide (x≤b))))) ⟨ax [.dat (.int .i64 x),.dat (.int .i64 a),.dat (.int .i64 b)],emp⟩:=by
 refine ap ?_;simp only[mf_rank_within];rcases c1:decide (a≤x)
 ·have c2:decide (x≥a)=false:=c1
  refine qI ?_
  repeat' (intro h<;>simp only[h,go_sem,go_sem_proc,agL,c1,c2,ag0]<;>try refine qS ?_ ?_)
 ·have c2:decide (x≥a)=true:=c1
  refine qI ?_
  repeat' (intro h<;>simp only[h,go_sem,go_sem_proc,agL,c1,c2,ag5]<;>try refine qS ?_ ?_)
noncomputable def qR:List Data→Option PRes:=FF (α:=List ClR) (fun (l:List ClR)=>([.sl (l.map clL)]:List Data)) (fun (l:List ClR)=>aH (OwnOK l) (.same (.bool true)))
theorem yi:∀ a b:List ClR,(fun (l:List ClR)=>([.sl (l.map clL)]:List Data)) a=(fun (l:List ClR)=>([.sl (l.map clL)]:List Data)) b→a=b:=by
  intro l1 l2 h;simp only[List.cons.injEq,Data.sl.injEq,and_true] at h;exact af fj _ _ h
@[go_sem] theorem N4 (l:List ClR) (hc:OwnOK l):qR [.sl (l.map clL)]=some (.same (.bool true)):=(aY yi l).trans (al hc _)
theorem Iw (T:Tab) (l9:T fp=mkE rF) (l:List ClR) (hc:OwnOK l) :
  wp T mf_rank_right.body (bF mf_rank_right.res (.same (.bool true))) ⟨ax [.dat (.sl (l.map clL))],emp⟩:=by
 refine ap ?_;simp only[mf_rank_right];have hl:=hc.len;simp only[go_sem,go_sem_proc,agL,l9,agX];refine ae [0,5,6] [] (fun (i:Nat) tm mem=>i≤l.length∧tm 7 = .dat (.int .i64 i)) (fun i=>l.length-i) 0 (by refine⟨by omega,rfl⟩) ?_;intro vs ms hvs hms;simp only[go_sem,go_sem_proc,agL,l9,agX] at hvs hms;subst hvs hms;rintro i tm mem hk hm ⟨hi,h7⟩;simp only[go_sem,go_sem_proc,agL,l9,List.cons.injEq] at hk hm;obtain⟨h0,h5,h6⟩:=hk;rcases agM (i<l.length) with hlt | hge
 ·have d1:decide ((i:Int)<(l.length:Int))=true:=decide_eq_true (by omega)
  have w3:IntKind.i64.wrap ((i:Int)+1)=((i+1:Nat):Int):=by rw[an _ (by omega) (by omega)];omega
  obtain⟨⟨c1,c2,c3,c4⟩,hx⟩:∃ c,l[i]?=some c:=⟨_,agT hlt⟩;obtain⟨⟨a1,a2,a3,a4⟩,hx0⟩:∃ c,l[0]?=some c:=⟨_,agT (by omega)⟩;have hcc:=hc.c _ (ahg hx);have hone:=hc.one _ (ahg hx) _ (ahg hx0);dsimp only at hcc hone;subst hone;have q1:(decide (0≤c1)&&decide (c1≤59))=true:=by simp only[ahj,decide_eq_true_eq];omega
  have q2:(decide (-1≤c2)&&decide (c2≤59))=true:=by simp only[ahj,decide_eq_true_eq];omega
  have q3:(decide (0≤c3)&&decide (c3≤9))=true:=by simp only[ahj,decide_eq_true_eq];omega
  have q4:(decide (0≤c4)&&decide (c4≤1000000000000000))=true:=by simp only[ahj,decide_eq_true_eq];omega
  refine qI ?_
  repeat' (intro h<;>simp only[h,go_sem,go_sem_proc,agL,l9,h0,h5,h6,h7,hx,hx0,d1,w3,q1,q2,q3,q4,clL,bne,beq_self_eq_true,agS,agX,agY]<;>try refine qS ?_ ?_)
  exact⟨i+1,by omega,by omega,rfl⟩
 ·have d1:decide ((i:Int)<(l.length:Int))=false:=decide_eq_false (by omega)
  have d2:decide ((l.length:Int)≤2000)=true:=decide_eq_true (by omega);refine qI ?_
  repeat' (intro h<;>simp only[h,go_sem,go_sem_proc,agL,l9,h0,h5,h6,h7,d1,d2,agX]<;>try refine qS ?_ ?_)
theorem SF (T:Tab) {K:bK→St→Prop} {kk:List Todo} (l:List ClR) (hl:OwnOK l) (k:Nat) (v1 v6 v7:MV) (v37:MV) (x2 x7 x35:Option (Nat × List MV)) (tm:Nat→MV) (m:Mem)
  (e1:tm 1=v1) (e6:tm 6=v6) (e7:tm 7=v7) (e8:tm 8 = .dat (.int .i64 k)) (e9:tm 9 = .dat (.int .i64 0)) (e37:tm 37=v37) (e40:tm 40 = .dat (.sl (l.map clL))) (e41:tm 41 = .dat (.int .i64 l.length)) (e42:tm 42 = .dat (.int .i64 0)) (m2:m 249002=x2) (m7:m 249007=x7) (m35:m 249035=x35)
  (hK:∀ tm' m',tm' 1=v1→tm' 6=v6→tm' 7=v7→tm' 8 = .dat (.int .i64 k)→tm' 9 = .dat (.int .i64 (Sr l k))→tm' 37=v37→m' 249002=x2→m' 249007=x7→m' 249035=x35→kont T K kk (.exit 2) ⟨tm',m'⟩) :
  wp T (mf_rank_Split.body.sub [1,1,1,1,0,1,0,0,1,1,0,0,1,1,0,1,0]) (kont T K kk) ⟨tm,m⟩:=by
 simp only[mf_rank_Split,MCode.sub];have hb:=fun t=>hl.cs.sum (fun c=>c.2.2.1=(k:Int)) t
 have hlen:=hl.len;refine ae [1,6,7,8,37,40,41] [249002,249007,249035] (fun (t:Nat) tm m=>t≤l.length∧tm 42 = .dat (.int .i64 t)∧tm 9 = .dat (.int .i64 (Sr (l.take t) k))) (fun t=>l.length-t) 0 (by refine⟨by omega,e42,e9⟩) ?_
 intro vs ms hvs hms;simp only[go_sem,go_sem_proc,agL,e1,e6,e7,e8,e37,e40,e41,m2,m7,m35] at hvs hms;subst hvs hms;clear e1 e6 e7 e8 e9 e37 e40 e41 e42 m2 m7 m35 tm m;rintro t tm m hk hm ⟨ht,e42,e9⟩;simp only[go_sem,go_sem_proc,agL,List.cons.injEq] at hk hm;obtain⟨e1,e6,e7,e8,e37,e40,e41⟩:=hk;obtain⟨m2,m7,m35⟩:=hm;rcases agM (t<l.length) with hlt | hge
 ·have d1:decide ((t:Int)<(l.length:Int))=true:=decide_eq_true (by omega)
  have w3:IntKind.i64.wrap ((t:Int)+1)=((t+1:Nat):Int):=by rw[an _ (by omega) (by omega)];omega
  obtain⟨⟨c1,c2,c3,c4⟩,hx⟩:∃ c,l[t]?=some c:=⟨_,agT hlt⟩
  have hst:Sr (l.take (t+1)) k=Sr (l.take t) k+if c3=(k:Int) then c4 else 0:=by
   unfold Sr;rw[FM hx]
  have h1:=hb t;have h2:=hb (t+1);have e1':Sr (l.take t) k=bt (l.take t) fun c=>if c.2.2.1=(k:Int) then c.2.2.2 else 0:=rfl
  have e2':Sr (l.take (t+1)) k=bt (l.take (t+1)) fun c=>if c.2.2.1=(k:Int) then c.2.2.2 else 0:=rfl
  rw[←e1'] at h1;rw[←e2'] at h2;rcases q:(c3==(k:Int))
  ·rw[if_neg (by have:=ne_of_beq_false q;omega),ahf] at hst
   refine qI ?_
   repeat' (intro h<;>simp only[h,go_sem,go_sem_proc,agL,e1,e6,e7,e8,e9,e37,e40,e41,e42,m2,m7,m35,hx,d1,w3,q,clL,agX,agY]<;>try refine qS ?_ ?_)
   exact⟨t+1,by omega,by omega,rfl,by rw[hst]⟩
  ·rw[if_pos (by have:=eq_of_beq q;omega)] at hst
   have wA:IntKind.i64.wrap (Sr (l.take t) k+c4)=Sr (l.take (t+1)) k:=by rw[hst,an _ (by omega) (by omega)]
   refine qI ?_
   repeat' (intro h<;>simp only[h,go_sem,go_sem_proc,agL,e1,e6,e7,e8,e9,e37,e40,e41,e42,m2,m7,m35,hx,d1,w3,q,wA,clL,agX,agY]<;>try refine qS ?_ ?_)
   exact⟨t+1,by omega,by omega,rfl,rfl⟩
 ·have d1:decide ((t:Int)<(l.length:Int))=false:=decide_eq_false (by omega)
  rw[ahh (by omega)] at e9;refine qI ?_
  repeat' (intro h<;>simp only[h,go_sem,go_sem_proc,agL,e1,e6,e7,e8,e9,e37,e40,e41,e42,d1]<;>try refine qS ?_ ?_)
  refine hK _ _ ?_ ?_ ?_ ?_ ?_ ?_ m2 m7 m35<;>simp only[aR,agP,if_false,e1,e6,e7,e8,e9,e37]
noncomputable def fV (l:List ClR) (x:Rat) (k t j:Nat):Option aG:=if (l.getD j zC).2.2.1<(k:Int)∨((l.getD j zC).2.2.1=(k:Int)∧j<t) then some (pQ l x j) else none
theorem CP (l:List ClR) (h:OwnOK l) (x:Rat):(fL l.length fun j=>fV l x 0 0 j)=fL l.length fun _=>none:=ca fun j hj=>by
 have:=(h.c _ (ahg (agT hj))).2.2.2.2.1;have e:l.getD j zC=l[j]:=by rw[agU,agT hj];rfl
 unfold fV;rw[e,if_neg (by omega)]
theorem D3 (l:List ClR) (x:Rat) (k:Nat):(fL l.length fun j=>fV l x k l.length j)=fL l.length fun j=>fV l x (k+1) 0 j:=ca fun j hj=>by
 unfold fV
 by_cases h:(l.getD j zC).2.2.1<((k+1:Nat):Int)
 ·rw[if_pos (by omega),if_pos (.inl h)]
 ·rw[if_neg (by omega),if_neg (by omega)]
theorem Iv (l:List ClR) (h:OwnOK l) (x:Rat):(fL l.length fun j=>fV l x 10 0 j)=fL l.length fun j=>some (pQ l x j):=ca fun j hj=>by
 have:=(h.c _ (ahg (agT hj))).2.2.2.2.2.1;have e:l.getD j zC=l[j]:=by rw[agU,agT hj];rfl
 unfold fV;rw[e,if_pos (.inl (by omega))]
theorem my {n:Int} (h:ct n):mz [.int .i64 n]=some (.same (.agg (ad (ah (n:Rat))))):=Bx n h
theorem RI (T:Tab) (cH:T cK=mkE mz) (dZ:T dL=mkE l8) (f5:T gq=mkE pU) {K:bK→St→Prop} {kk:List Todo} (l:List ClR) (x:Rat) (hsp:p6 l x) (k:Nat) (G g7:Nat) (v1 v37:MV) (x2:Option (Nat × List MV)) (tm:Nat→MV) (m:Mem)
  (e1:tm 1=v1) (e6:tm 6 = .ref 249035 G 4 0 l.length) (e7:tm 7 = .ptr 249007 g7 0) (e8:tm 8 = .dat (.int .i64 k)) (e9:tm 9 = .dat (.int .i64 (Sr l k))) (e12:tm 12 = .dat (.bool (decide (((Sr l k:Int):Rat)≤dj l x k)))) (e37:tm 37=v37) (e60:tm 60 = .dat (.sl (l.map clL))) (e61:tm 61 = .dat (.int .i64 l.length)) (e62:tm 62 = .dat (.int .i64 0)) (m2:m 249002=x2) (m7:m 249007=some (g7,(ad (ah (dj l x k))).map .dat)) (m35:m 249035=some (G,kt o5 (fL l.length fun j=>fV l x k 0 j)))
  (hK:∀ tm' m',tm' 1=v1→tm' 6 = .ref 249035 G 4 0 l.length→tm' 7 = .ptr 249007 g7 0→tm' 9 = .dat (.int .i64 (Sr l k))→tm' 12 = .dat (.bool (decide (((Sr l k:Int):Rat)≤dj l x k)))→tm' 37=v37→m' 249002=x2→m' 249007=some (g7,(ad (ah (dj l x k))).map .dat)→m' 249035=some (G,kt o5 (fL l.length fun j=>fV l x (k+1) 0 j))→kont T K kk (.exit 4) ⟨tm',m'⟩) :
  wp T (mf_rank_Split.body.sub [1,1,1,1,0,1,0,0,1,1,0,0,1,1,1,1,0,1,0]) (kont T K kk) ⟨tm,m⟩:=by
 simp only[mf_rank_Split,MCode.sub];have how:=hsp.own;have hlen:=how.len;refine ae [1,6,7,8,9,12,37,60,61] [249002,249007] (fun (t:Nat) tm m=>t≤l.length∧tm 62 = .dat (.int .i64 t)∧m 249035=some (G,kt o5 (fL l.length fun j=>fV l x k t j))) (fun t=>l.length-t) 0 (by refine⟨by omega,e62,m35⟩) ?_;intro vs ms hvs hms;simp only[go_sem,go_sem_proc,agL,e1,e6,e7,e8,e9,e12,e37,e60,e61,m2,m7] at hvs hms;subst hvs hms;clear e1 e6 e7 e8 e9 e12 e37 e60 e61 e62 m2 m7 m35 tm m;rintro t tm m hk hm ⟨ht,e62,m35⟩;simp only[go_sem,go_sem_proc,agL,List.cons.injEq] at hk hm;obtain⟨e1,e6,e7,e8,e9,e12,e37,e60,e61⟩:=hk;obtain⟨m2,m7⟩:=hm;rcases agM (t<l.length) with hlt | hge
 ·have d1:decide ((t:Int)<(l.length:Int))=true:=decide_eq_true (by omega)
  have w3:IntKind.i64.wrap ((t:Int)+1)=((t+1:Nat):Int):=by rw[an _ (by omega) (by omega)];omega
  obtain⟨⟨c1,c2,c3,c4⟩,hx⟩:∃ c,l[t]?=some c:=⟨_,agT hlt⟩;have hcm:=ahg hx;have hc':=how.c _ hcm;dsimp only at hc';have hgd:l.getD t zC=(c1,c2,c3,c4):=by rw[agU,hx];rfl
  have hlen4:=C2 (q:=fun j=>fV l x k t j) hlt;rcases q:(c3==(k:Int))
  ·have hne:c3≠(k:Int):=ne_of_beq_false q
   have hnx:(fL l.length fun j=>fV l x k (t+1) j)=fL l.length fun j=>fV l x k t j:=ca fun j _=>by
    unfold fV
    by_cases hj:j=t
    ·subst hj
     rw[hgd];dsimp only
     by_cases h1:c3<(k:Int)
     ·rw[if_pos (.inl h1),if_pos (.inl h1)]
     ·rw[if_neg (by omega),if_neg (by omega)]
    ·by_cases h1:(l.getD j zC).2.2.1<(k:Int)∨((l.getD j zC).2.2.1=(k:Int)∧j<t)
     ·rw[if_pos h1,if_pos (by omega)]
     ·rw[if_neg h1,if_neg (by omega)]
   refine qI ?_
   repeat' (intro h<;>simp only[h,go_sem,go_sem_proc,agL,e1,e6,e7,e8,e9,e12,e37,e60,e61,e62,m2,m7,hx,d1,w3,q,clL,bne,ag6,agX,agY]<;>try refine qS ?_ ?_)
   exact⟨t+1,by omega,by omega,rfl,by rw[hnx];exact m35⟩
  ·have hke:c3=(k:Int):=eq_of_beq q
   have hset:=fun a b c d=>CN (q:=fun j=>fV l x k t j) hlt a b c d
   have hnext:∀ F:aG,F=pQ l x t→(fL l.length fun j=>if j=t then some F else fV l x k t j)=fL l.length fun j=>fV l x k (t+1) j:=by
    intro F hF;refine ca fun j _=>?_
    by_cases hj:j=t
    ·subst hj
     rw[if_pos rfl];unfold fV;rw[hgd,if_pos (.inr ⟨hke,by omega⟩),hF]
    ·rw[if_neg hj]
     unfold fV
     by_cases h1:(l.getD j zC).2.2.1<(k:Int)∨((l.getD j zC).2.2.1=(k:Int)∧j<t)
     ·rw[if_pos h1,if_pos (by omega)]
     ·rw[if_neg h1,if_neg (by omega)]
   have hsq:pQ l x t=ah (cg l x (c1,c2,c3,c4)):=by unfold pQ;rw[hgd]
   have iA:ct c4:=dX (by omega) (by omega);have fA:=my iA;rcases k2:decide (((Sr l k:Int):Rat)≤dj l x k)
   ·have k2':=of_decide_eq_false k2
    have bS:=how.Sr_nonneg k;have iS:ct (Sr l k):=dX (by omega) (by omega);have fS:=my iS;have zr:=Fj hsp k;have zA:szR 29 ((c4:Int):Rat):=nz (by omega);have zS:szR 29 ((Sr l k:Int):Rat):=nz (by omega);have hS0:((Sr l k:Int):Rat)≠0:=by have:=BL l x k;grind
    have f1:=EG (eT iA) (du zr (by omega)) (tY zA zr (by omega));have f2:=M6 (du (zd zA zr) (by omega)) (eT iS) hS0 (AF (zd zA zr) zS (by omega));have hpay:=LM how hcm hke k2';dsimp only at hpay;have hwr:=fun a b c d=>CN (q:=fun j=>if j=t then some ((a,b),(c,d)) else fV l x k t j) hlt
    have hlen5:=fun a b c d=>C2 (q:=fun j=>if j=t then some ((a,b),(c,d)) else fV l x k t j) hlt
    have hn:=hnext (ah (((c4:Int):Rat)*dj l x k / ((Sr l k:Int):Rat))) (by rw[hsq,hpay])
    have htwo:∀ F F':aG,(fL l.length fun j=>if j=t then some F else if j=t then some F' else fV l x k t j)=fL l.length fun j=>if j=t then some F else fV l x k t j:=fun F F'=>ca fun j _=>by
     by_cases hj:j=t
     ·rw[if_pos hj,if_pos hj]
     ·rw[if_neg hj,if_neg hj,if_neg hj]
    clear zr zA zS;generalize ah (((c4:Int):Rat)*dj l x k / ((Sr l k:Int):Rat))=G1 at *;generalize ah (((c4:Int):Rat)*dj l x k)=G2 at *;generalize ah ((Sr l k:Int):Rat)=G3 at *;generalize hG4:ah (dj l x k)=G4 at *;generalize ah ((c4:Int):Rat)=G5 at *;obtain⟨⟨g1,g2⟩,⟨g3,g4⟩⟩:=G1;obtain⟨⟨h1,h2⟩,⟨h3,h4⟩⟩:=G2;obtain⟨⟨i1,i2⟩,⟨i3,i4⟩⟩:=G3;obtain⟨⟨j1,j2⟩,⟨j3,j4⟩⟩:=G4;obtain⟨⟨n1,n2⟩,⟨n3,n4⟩⟩:=G5;simp only[ad,agV,agW] at fA fS f1 f2 m7;have hst:=hset n1 n2 n3 n4;have hst2:=hwr n1 n2 n3 n4 g1 g2 g3 g4;have hl5:=hlen5 n1 n2 n3 n4;rw[htwo,hn] at hst2;refine qI ?_
    repeat' (intro h<;>simp only[h,go_sem,go_sem_proc,agL,cH,dZ,f5,e1,e6,e7,e8,e9,e12,e37,e60,e61,e62,m2,m7,m35,hx,d1,w3,hlt,q,k2,fA,fS,f1,f2,hlen4,hl5,hst,hst2,clL,agX,agY,bne,beq_self_eq_true,agS,ag6]<;>try refine qS ?_ ?_)
    exact⟨t+1,by omega,rfl,by omega,rfl,rfl⟩
   ·have hpay:=DN how hcm hke (of_decide_eq_true k2)
    dsimp only at hpay;have hn:=hnext (ah ((c4:Int):Rat)) (by rw[hsq,hpay]);generalize ah ((c4:Int):Rat)=G5 at *;obtain⟨⟨n1,n2⟩,⟨n3,n4⟩⟩:=G5;simp only[ad] at fA;have hst:=hset n1 n2 n3 n4;rw[hn] at hst;refine qI ?_
    repeat' (intro h<;>simp only[h,go_sem,go_sem_proc,agL,cH,e1,e6,e7,e8,e9,e12,e37,e60,e61,e62,m2,m7,m35,hx,d1,w3,hlt,q,k2,fA,hlen4,hst,clL,agX,agY,bne,beq_self_eq_true,agS,ag6]<;>try refine qS ?_ ?_)
    exact⟨t+1,by omega,by omega,rfl,rfl⟩
 ·have d1:decide ((t:Int)<(l.length:Int))=false:=decide_eq_false (by omega)
  obtain rfl:t=l.length:=by omega
  rw[D3] at m35;refine qI ?_
  repeat' (intro h<;>simp only[h,go_sem,go_sem_proc,agL,e1,e6,e7,e8,e9,e12,e37,e60,e61,e62,d1]<;>try refine qS ?_ ?_)
  refine hK _ _ ?_ ?_ ?_ ?_ ?_ ?_ m2 m7 m35<;>simp only[aR,agP,if_false,e1,e6,e7,e9,e12,e37]
noncomputable def nK:List Data→Option PRes:=FF (α:=Rat × (List ClR)) (fun (x,l)=>([.agg (ad (ah x)),.sl (l.map clL)]:List Data)) (fun (x,l)=>aH (p6 l x) (.same (.tup [.sl ((l.map fun c=>ah (cg l x c)).map ad),.int .i64 0])))
theorem xU:∀ a b:Rat × (List ClR),(fun (x,l)=>([.agg (ad (ah x)),.sl (l.map clL)]:List Data)) a=(fun (x,l)=>([.agg (ad (ah x)),.sl (l.map clL)]:List Data)) b→a=b:=by
  rintro⟨x1,l1⟩ ⟨x2,l2⟩ h;simp only[List.cons.injEq,Data.sl.injEq,Data.agg.injEq,and_true] at h;exact Prod.ext (uk (cV _ _ h.1)) (af fj _ _ h.2)
@[go_sem] theorem sR (x:Rat) (l:List ClR) (hc:p6 l x):nK [.agg (ad (ah x)),.sl (l.map clL)]=some (.same (.tup [.sl ((l.map fun c=>ah (cg l x c)).map ad),.int .i64 0])):=(aY xU (x,l)).trans (al hc _)
theorem Iy (T:Tab) (aE:T aT=mkE fq) (aq:T aW=mkE dt) (cH:T cK=mkE mz) (dw:T ib=mkE qR) (dZ:T dL=mkE l8) (f5:T gq=mkE pU) (cf:T dh=mkE kQ) (x:Rat) (l:List ClR) (hc:p6 l x) :
  wp T mf_rank_Split.body (bF mf_rank_Split.res (.same (.tup [.sl ((l.map fun c=>ah (cg l x c)).map ad),.int .i64 0]))) ⟨ax [.dat (.agg (ad (ah x))),.dat (.sl (l.map clL))],emp⟩:=by
 refine ap ?_;simp only[mf_rank_Split];have hcc:=hc;obtain⟨how,hx0,hxs⟩:=hc;have hlim:=du hxs (by omega);have hlen:=how.len;have hrt:=mQ hlim;have hcx:=fJ hlim (eT xq);have hcd:decide (kK x ((0:Int):Rat)<0)=false:=by rw[pX];exact decide_eq_false (by have:((0:Int):Rat)=0:=rfl;grind)
 have ho:=d8 hlim;have hsp:=HA l x;have f0:=my xq;have hr0:=GC how hx0;have hps:=CP l how x;have hz:=wB l.length;rw[←hps] at hz;have hmk:(64*l.length≤140737488355328)=True:=eq_true (by omega);have hmk2:(l.length≤maxLen)=True:=eq_true (by unfold maxLen;omega);generalize hF:ah x=F at *;generalize hZ:ah ((0:Int):Rat)=Z at *;obtain⟨⟨a1,a2⟩,⟨a3,a4⟩⟩:=F;obtain⟨⟨z1,z2⟩,⟨z3,z4⟩⟩:=Z;simp only[ad] at f0 hcx;simp only[go_sem,go_sem_proc,agL,aE,aq,cH,dw,dZ,f5,cf,ad,hrt,ho.1,ho.2,f0,hcx,hcd,how,hmk,hmk2,hz,agX,agS,ag6];refine ae [1,6,7] [249002] (fun (k:Nat) tm m=>k≤10∧tm 37 = .dat (.int .i64 k)∧m 249007=some (0,(ad (ah (dj l x k))).map .dat)∧m 249035=some (0,kt o5 (fL l.length fun j=>fV l x k 0 j))) (fun k=>10-k) 0 (by refine⟨by omega,rfl,by rw[hr0,hF];rfl,rfl⟩) ?_
 intro vs ms hvs hms;simp only[go_sem,go_sem_proc,agL,aE,aq,cH,dw,dZ,f5,cf,ad,agX] at hvs hms;subst hvs hms;rintro k tm m hk hm ⟨hk10,e37,m7,m35⟩;simp only[go_sem,go_sem_proc,agL,aE,aq,cH,dw,dZ,f5,cf,List.cons.injEq] at hk hm;obtain⟨e1,e6,e7⟩:=hk;rcases agM (k<10) with hlt | hge
 ·have d1:decide ((k:Int)<10)=true:=decide_eq_true (by omega)
  have w3:IntKind.i64.wrap ((k:Int)+1)=((k+1:Nat):Int):=by rw[an _ (by omega) (by omega)];omega
  simp only[go_sem,go_sem_proc,agL,aE,aq,cH,dw,dZ,f5,cf,e1,e6,e7,e37,hm,d1,agX];refine SF T l how k (.dat (.sl (l.map clL))) (.ref 249035 0 4 0 l.length) (.ptr 249007 0 0) (.dat (.int .i64 k)) _ (some (0,(ad (ah (dj l x k))).map .dat)) (some (0,kt o5 (fL l.length fun j=>fV l x k 0 j))) _ _ ?_ ?_ ?_ ?_ ?_ ?_ ?_ ?_ ?_ hm m7 m35 ?_
  all_goals first | (intro tm' m' k1 k6 k7 k8 k9 k37 q2 q7 q35) | (simp only[aR,agP,if_false,if_true,e1,e6,e7,e37];done)
  have bS:=how.Sr_nonneg k;have iS:ct (Sr l k):=dX (by omega) (by omega);have fS:=my iS;have zr:=Fj hcc k;have lr:=du zr (by omega);have zS:szR 29 ((Sr l k:Int):Rat):=nz (by omega);have hcp:=fJ lr (eT iS);have hge':decide (kK (dj l x k) ((Sr l k:Int):Rat)≥0)=decide (((Sr l k:Int):Rat)≤dj l x k):=sS;have hsub:=tq lr (eT iS) (ig zr (nu zS) (by omega));have hL2:=fun (K:bK→St→Prop) (kk:List Todo) G g7 v1 v37 x2 tm m=>RI T cH dZ f5 (K:=K) (kk:=kk) l x hcc k G g7 v1 v37 x2 tm m
  have hen:((Sr l k:Int):Rat)≤dj l x k→ah (dj l x (k+1))=ah (dj l x k-((Sr l k:Int):Rat)):=fun h=>by rw[Ca how h]
  have hno:¬ ((Sr l k:Int):Rat)≤dj l x k→ah (dj l x (k+1))=((z1,z2),(z3,z4)):=fun h=>by rw[H5 h,←hZ];rfl
  generalize ah (dj l x k-((Sr l k:Int):Rat))=G1 at *;generalize hG2:ah (dj l x k)=G2 at *;generalize ah ((Sr l k:Int):Rat)=G3 at *;generalize hG4:ah (dj l x (k+1))=G4 at *;obtain⟨⟨g1,g2⟩,⟨g3,g4⟩⟩:=G1;obtain⟨⟨h1,h2⟩,⟨h3,h4⟩⟩:=G2;obtain⟨⟨i1,i2⟩,⟨i3,i4⟩⟩:=G3;simp only[ad,agV,agW] at fS hcp hsub q7;simp only[go_sem,go_sem_proc,agL,aE,aq,cH,dw,dZ,f5,cf,k1,k6,k7,k8,k9,k37,q2,q7,q35,fS,hcp,hge',agX];refine hL2 _ _ 0 0 (.dat (.sl (l.map clL))) (.dat (.int .i64 k)) _ _ _ ?_ ?_ ?_ ?_ ?_ ?_ ?_ ?_ ?_ ?_ q2 ?_ q35 ?_
  all_goals first | (intro tm2 m2 j1 j6 j7 j9 j12 j37 r2 r7 r35) | (simp only[aR,agP,if_false,if_true,k1,k6,k7,k8,k9,k37];done) | (rw[q7];rfl)
  simp only[ad,agV,agW] at r7;clear hL2;rcases q:decide (((Sr l k:Int):Rat)≤dj l x k)
  ·have he:=hno (of_decide_eq_false q)
   rw[q] at j12;simp only[go_sem,go_sem_proc,agL,aE,aq,cH,dw,dZ,f5,cf,j1,j6,j7,j9,j12,j37,r2,r7,r35,f0,w3,ag6,agS]
   repeat' (first|refine qS ?_ ?_|fail)<;>intro h<;>simp only[h,go_sem,go_sem_proc,agL,aE,aq,cH,dw,dZ,f5,cf,j1,j6,j7,j9,j12,j37,r2,r7,r35,f0,w3,ag6,agS]
   exact⟨k+1,by omega,by omega,rfl,by rw[hG4,he];rfl,rfl⟩
  ·have he:=hen (of_decide_eq_true q)
   rw[q] at j12;simp only[go_sem,go_sem_proc,agL,aE,aq,cH,dw,dZ,f5,cf,j1,j6,j7,j9,j12,j37,r2,r7,r35,fS,hsub,w3,bne,beq_self_eq_true,ag6,agS]
   repeat' (first|refine qS ?_ ?_|fail)<;>intro h<;>simp only[h,go_sem,go_sem_proc,agL,aE,aq,cH,dw,dZ,f5,cf,j1,j6,j7,j9,j12,j37,r2,r7,r35,fS,hsub,w3,bne,beq_self_eq_true,ag6,agS]
   exact⟨k+1,by omega,by omega,rfl,by rw[hG4,he];rfl,rfl⟩
 ·have d1:decide ((k:Int)<10)=false:=decide_eq_false (by omega)
  obtain rfl:k=10:=by omega
  rw[Iv l how x,hsp,AG] at m35;have hfz:=fun (K:St→Prop) (st:St)=>cp (K:=K) (st:=st) ce 6 249035 0 (l.map fun c=>ah (cg l x c))
  rw[agX] at hfz;simp only[go_sem,go_sem_proc,agL,aE,aq,cH,dw,dZ,f5,cf,e1,e6,e7,e37,hm,d1,m35,hfz,agX]
  repeat' (first|refine qS ?_ ?_|fail)<;>intro h<;>simp only[h,go_sem,go_sem_proc,agL,aE,aq,cH,dw,dZ,f5,cf,e1,e6,e7,e37,hm,d1,m35,hfz,agX]
end Go.Mini
