/- A part of the proof. -/
import Derived.Test.YtdbkjjoedjfmpaaM12
import Derived.Test.YtdbkjjoedjfmpaaM11
set_option linter.unusedSimpArgs false
set_option linter.unusedVariables false
open Bool renaming false_eq_true → age, not_true → agn, false_and → agr, or_false → ags, and_false → agv, true_and → agx, not_false → agy, or_true → agz, and_eq_true → agN
open Decidable renaming em → agf
open List renaming getElem?_eq_getElem → agh, getD_eq_getElem?_getD → agi, map_cons → agj, map_nil → agk, length_map → agl, getElem?_map → agm, map_append → agp, range_succ → agq, take → agt, drop → agu, getElem?_cons_succ → agB, getElem?_append_left → agC, getElem?_append_right → agD, set_cons_succ → agE, set_append_left → agF, set_append_right → agG, filter_nil → agI, mem_of_getElem? → agJ, take_of_length_le → agK
open Nat renaming reduceEqDiff → ago, mul_one → agw, add_comm → agA, le_refl → agL
open Int renaming add_zero → agH
open Rat renaming intCast_add → agM
namespace Go.Mini
open Go
set_option maxRecDepth 10000
set_option maxHeartbeats 4000000
theorem Rp (T:Tab) (bM:T cY=mkE kI) (lB:T fy=mkE pn) {K:bH→St→Prop} {kk:List Todo} (mem0:Mem) (n:Nat) (p:List Nat) (hp:p.length≤60) (W:Nat→Nat→Rat) (X:Nat→Rat) (i:Nat) (hi:i<n) (s0:Rat) (hz:∀ t,t≤p.length→szR 440 (s0+sumQ t fun k=>W (p.getD k 0) i*X k)) (hT:∀ k,k<p.length→szR 440 (W (p.getD k 0) i*X k)∧szR 30 (W (p.getD k 0) i)∧szR 295 (X k)) (v17 v110 v111 v112:MV) (G:Nat) (x156:Option (Nat × List MV)) (tm:Nat→MV) (m:Mem)
  (e6:tm 6 = .dat (.sl (p.map gS))) (e7:tm 7 = .dat (.sl (p.map (shL n W)))) (e15:tm 15 = .dat (.sl ((bY p.length X).map ad))) (e17:tm 17=v17) (e18:tm 18 = .dat (.int .i64 i)) (e20:tm 20 = .ptr 248020 G 0) (e110:tm 110=v110) (e111:tm 111=v111) (e112:tm 112=v112) (e120:tm 120 = .dat (.int .i64 p.length)) (e121:tm 121 = .dat (.int .i64 0))
  (m20:m 248020=some (G,(ad (ak s0)).map .dat)) (m156:m 248156=x156) (hfr:FrK 248 mem0 m)
  (hK:∀ tm' m',tm' 6 = .dat (.sl (p.map gS))→tm' 7 = .dat (.sl (p.map (shL n W)))→tm' 15 = .dat (.sl ((bY p.length X).map ad))→tm' 17=v17→tm' 20 = .ptr 248020 G 0→tm' 110=v110→tm' 111=v111→tm' 112=v112→m' 248020=some (G,(ad (ak (s0+sumQ p.length fun k=>W (p.getD k 0) i*X k))).map .dat)→m' 248156=x156→FrK 248 mem0 m'→kont T K kk (.exit 8) ⟨tm',m'⟩) :
  wp T (mf_clear_list.body.sub [1,1,1,1,1,1,1,1,1,0,1,0,0,0,1,1,0,0,1,1,0,1,0]) (kont T K kk) ⟨tm,m⟩:=by
 simp only[mf_clear_list,MCode.sub]
 refine ae [6,7,15,17,18,20,110,111,112,120] [248156] (fun (k:Nat) tm m=>k≤p.length∧tm 121 = .dat (.int .i64 k)∧m 248020=some (G,(ad (ak (s0+sumQ k fun k=>W (p.getD k 0) i*X k))).map .dat)∧FrK 248 mem0 m) (fun k=>p.length-k) 0 (by
  refine⟨by omega,e121,?_,hfr⟩
  rw[m20,sumQ,Rat.add_zero]) ?_
 intro vs ms hvs hms;simp only[go_sem,go_sem_proc,age,e6,e7,e15,e17,e18,e20,e110,e111,e112,e120,m156] at hvs hms;subst hvs hms;clear e6 e7 e15 e17 e18 e20 e110 e111 e112 e120 e121 m20 m156 hfr tm m;rintro k tm m hk hm ⟨hkn,e121,m20,hfr⟩;simp only[go_sem,go_sem_proc,age,List.cons.injEq] at hk hm;obtain⟨e6,e7,e15,e17,e18,e20,e110,e111,e112,e120⟩:=hk;rcases agf (k<p.length) with hlt | hge
 ·have d1:decide ((k:Int)<(p.length:Int))=true:=decide_eq_true (by omega)
  have w3:IntKind.i64.wrap ((k:Int)+1)=((k+1:Nat):Int):=by rw[aj _ (by omega) (by omega)];omega
  obtain⟨pk,hx⟩:∃ c,p[k]?=some c:=⟨_,agh hlt⟩;have hpk:p.getD k 0=pk:=by rw[agi,hx];rfl
  obtain⟨z1,z2,z3⟩:=hT k hlt;have z0:=hz k (by omega);rw[hpk] at z1 z2;have hmul:=yk (dU z2 (by omega)) (dU z3 (by omega)) (qj z2 z3 (by omega));have hadd:=Em (dU z0 (by omega)) (dU z1 (by omega)) (jJ z0 z1 (by omega))
  have hs:(s0+sumQ (k+1) fun k=>W (p.getD k 0) i*X k)=s0+sumQ k (fun k=>W (p.getD k 0) i*X k)+W pk i*X k:=by
   rw[sumQ,hpk];grind
  have hg:=eY (W pk) hi;have hgX:=eY X hlt;rw[←hs] at hadd;clear z0 z1 z2 z3 hT hz hs hK;generalize ak (s0+sumQ k fun k=>W (p.getD k 0) i*X k)=F1 at *;generalize hF2:ak (s0+sumQ (k+1) fun k=>W (p.getD k 0) i*X k)=F2 at *;generalize ak (W pk i*X k)=F3 at *;generalize ak (W pk i)=F4 at *;generalize ak (X k)=F5 at *;obtain⟨⟨a1,a2⟩,⟨a3,a4⟩⟩:=F1;obtain⟨⟨b1,b2⟩,⟨b3,b4⟩⟩:=F2;obtain⟨⟨f1,f2⟩,⟨f3,f4⟩⟩:=F3;obtain⟨⟨g1,g2⟩,⟨g3,g4⟩⟩:=F4;obtain⟨⟨k1,k2⟩,⟨k3,k4⟩⟩:=F5;simp only[ad,agj,agk] at hmul hadd m20;refine qI ?_
  repeat' (intro h<;>simp only[h,go_sem,go_sem_proc,age,bM,lB,e6,e7,e15,e17,e18,e20,e110,e111,e112,e120,e121,m20,hm,d1,w3,hx,shL,hg,hgX,hmul,hadd,ad,agl,agm,bne,beq_self_eq_true,agn]<;>try refine qS ?_ ?_)
  refine⟨k+1,by omega,by omega,rfl,by rw[hF2],by repeat first | exact hfr | refine FrK.upd ?_ (by decide)⟩
 ·have d1:decide ((k:Int)<(p.length:Int))=false:=decide_eq_false (by omega)
  obtain rfl:k=p.length:=by omega
  refine qI ?_
  repeat' (intro h<;>simp only[h,go_sem,go_sem_proc,age,e6,e7,e15,e17,e18,e20,e110,e111,e112,e120,e121,d1]<;>try refine qS ?_ ?_)
  refine hK _ _ ?_ ?_ ?_ ?_ ?_ ?_ ?_ ?_ m20 hm hfr<;>simp only[aH,ago,if_false,e6,e7,e15,e17,e20,e110,e111,e112]
noncomputable def lsD (a:DebA):Data:=.tup [.sl ((bY a.cash.length ((ab a.cash a.cs).lst (fOf a.fl) (pOf a.P))).map ad),.bool true]
noncomputable def yK:List MV→Mem→Option Data:=NN (fun (a:DebA) args mem=>args=[.ref 228023 a.g 1 0 a.cash.length]∧LsQ a mem) lsD
theorem Da (a:DebA) (mem:Mem) (h:LsQ a mem):yK [.ref 228023 a.g 1 0 a.cash.length] mem=some (lsD a):=by
 refine Hz (a:=a) ?_ ⟨rfl,h⟩;rintro a b args mem ⟨e1,e2⟩ ⟨e3,e4⟩;rw[DebA.uniq e2.at_ e4.at_]
theorem DD (l:List Int):l.map iC=ay aa l:=by
 unfold ay
 induction l with
 | nil=>rfl
 | cons a l ih=>rw[agj,agj,List.flatten_cons,agp,←ih];rfl
theorem zrow (n:Nat):(List.replicate n [MV.dat (.int .i64 0)]).flatten=(fL n fun _=>(0:Int)).map iC:=by
 induction n with
 | zero=>rfl
 | succ n ih=>rw[List.replicate_succ',List.flatten_append,ih];simp [fL,agq,iC]
theorem MN (T:Tab) (bo:T bp=mkE fK) (rM:T dV=mkN ow) (Jc:T kC=mkN pZ) (bM:T cY=mkE kI) (lB:T fy=mkE pn) (a:DebA) (mem:Mem) (ha:LsQ a mem) :
  wp T mf_clear_list.body (pH mf_clear_list.res fun m mem'=>toD 6 emp m=some (lsD a)∧FrK 248 mem mem') ⟨ax [.ref 228023 a.g 1 0 a.cash.length],mem⟩:=by
 have hat:=ha.at_;have hs:=ha.fine.sm;have hpay:=ha.pay;have hn:=hs.n5;have hmk1:(8*a.cash.length≤140737488355328)=True:=eq_true (by omega);have hmk2:(a.cash.length≤maxLen)=True:=eq_true (by unfold maxLen;omega);have h94:mem 248094=none:=ha.n1 248094 (by decide);have h98:mem 248098=none:=ha.n1 248098 (by decide);have h29:mem 248029=none:=ha.n1 248029 (by decide);have hz:=zrow a.cash.length
 have hz0:(fL a.cash.length fun j=>stI a 0 j)=fL a.cash.length fun _=>(0:Int):=bK fun j _=>by
  unfold stI;rw[if_neg (by omega),FW];rfl
 refine ap ?_;simp only[mf_clear_list];simp only[go_sem,go_sem_proc,age,hmk1,hmk2,h94,h98,h29,hz];refine Rx T rM a mem ha (.ref 228023 a.g 1 0 a.cash.length) (.ref 228023 a.g 1 0 a.cash.length) (.ref 228023 a.g 1 0 a.cash.length) 0 0 0 _ _ ?_ ?_ ?_ ?_ ?_ ?_ ?_ ?_ ?_ ?_ ?_ ((((FrK.refl _ _).upd (by decide)).upd (by decide)).upd (by decide)) ?_
 all_goals first | (intro tm m g6 g7 k0 k4 k5 k6 k7 m29 m94 m98 hfr) | (simp only[aH,ago,if_false,if_true];done) | (simp only[aH,ago,if_false,if_true];rfl) | (simp only[aA,ago,if_false,if_true,hz0]) | skip
 have hst:(fL a.cash.length fun j=>stI a a.cash.length j)=fL a.cash.length fun i=>dc a.cash a.cs (fOf a.fl) i:=bK fun j hj=>by
  unfold stI;rw[if_pos hj,Ec,uB hat.can fun i hi=>(DebA.f_eq hat ha.fine hi).2]
 rw[hst,DD] at m29;have hN:∀ mm,FrK 248 mem mm→pZ [.ref 228023 a.g 1 0 a.cash.length,.dat (.sl ((fL a.cash.length fun i=>dc a.cash a.cs (fOf a.fl) i).map aa)),.dat (.sl (a.p.map gS)),.dat (.sl (a.p.map (shL a.cash.length a.W)))] mm=some (.tup [.sl (a.xs.map ad),.bool true]):=fun mm h=>AW a mm ⟨hat.fr h (by decide) hn,ha.n3.fr h (by decide),ha.fine,hpay⟩
 have hSTl:(fL a.cash.length fun i=>dc a.cash a.cs (fOf a.fl) i).length=a.cash.length:=bT _ _;have hSTg:∀ i,i<a.cash.length→(fL a.cash.length fun i=>dc a.cash a.cs (fOf a.fl) i)[i]?=some (dc a.cash a.cs (fOf a.fl) i):=fun i hi=>cR _ hi
 generalize hSTe:(fL a.cash.length fun i=>dc a.cash a.cs (fOf a.fl) i)=ST at *;have hf5:=fun (K:St→Prop) (st:St)=>bO (K:=K) (st:=st) bc 5 248029 0 ST
 rw[hSTl] at hf5;have hf6:=fun (K:St→Prop) (st:St)=>bO (K:=K) (st:=st) ik 6 248094 g6 a.p
 have hf7:=fun (K:St→Prop) (st:St)=>bO (K:=K) (st:=st) (EH a.cash.length a.W) 7 248098 g7 a.p
 have hN2:=fun g1 g2 g3 c1 c2 c3=>hN (aA (aA (aA m 248029 g1 c1) 248094 g2 c2) 248098 g3 c3) (((hfr.upd (by decide)).upd (by decide)).upd (by decide))
 simp only[go_sem,go_sem_proc,age,Jc,k0,k4,k5,k6,k7,m29,m94,m98,hf5,hf6,hf7,hN2,hSTl,agl,agn];have hpl:a.p.length≤a.cash.length:=uZ _ _;have hps:=fun i (hi:i<a.cash.length) t (ht:t≤a.p.length)=>Mx hs hpay hi ht
 have hlp:=fun i (hi:i<a.cash.length)=>hpay.good.lst_pay (d:=ab a.cash a.cs) hi
 have hpe:payers (pOf a.P) (ab a.cash a.cs).n=a.p:=rfl;have hpe2:payers (pOf a.P) a.cash.length=a.p:=rfl;have hxs:a.xs=bY a.p.length fun k=>(ab a.cash a.cs).lst (fOf a.fl) (pOf a.P) (a.p.getD k 0)-(ab a.cash a.cs).U (a.p.getD k 0) (fOf a.fl (a.p.getD k 0)):=rfl
 rw[hpe] at hlp;rw[hpe2] at hps;rw[hxs];generalize hX:(fun k=>(ab a.cash a.cs).lst (fOf a.fl) (pOf a.P) (a.p.getD k 0)-(ab a.cash a.cs).U (a.p.getD k 0) (fOf a.fl (a.p.getD k 0)))=X at *;have hX':∀ k,(ab a.cash a.cs).lst (fOf a.fl) (pOf a.P) (a.p.getD k 0)-(ab a.cash a.cs).U (a.p.getD k 0) (fOf a.fl (a.p.getD k 0))=X k:=fun k=>congrFun hX k
 simp only[hX'] at hps hlp;have hcast:=fun i=>p7 hs.right (fOf a.fl) i
 have hsb:=fun i=>hs.steady (fOf a.fl) i
 clear hf5 hf6 hf7 hN hN2 hxs hX hX' k0 k4 k5 k6 k7 m29 m94 m98 h94 h98 h29 hz hz0 hmk1 hmk2
 refine ae [6,7,15,110,111] [] (fun ((i,g):Nat × Nat) tm mm=>i≤a.cash.length∧tm 112 = .dat (.int .i64 i)∧tm 17 = .ref 248156 g 4 0 i∧mm 248156=some (g,ay ad (bY i ((ab a.cash a.cs).lst (fOf a.fl) (pOf a.P))))∧FrK 248 mem mm) (fun (i,_)=>a.cash.length-i) (0,cL (m 248156)) (by
  refine⟨by omega,rfl,rfl,by simp [aA];rfl,by repeat first | exact hfr | refine FrK.upd ?_ (by decide)⟩) ?_
 intro vs ms hvs hms;simp only[go_sem,go_sem_proc,age] at hvs hms;subst hvs hms;clear hfr m tm;rintro⟨i,g⟩ tm m hk-⟨hin,e112,e17,m156,hfr⟩;simp only[go_sem,go_sem_proc,age,List.cons.injEq] at hk;obtain⟨e6,e7,e15,e110,e111⟩:=hk;rcases agf (i<a.cash.length) with hi | hge
 ·have d1:decide ((i:Int)<(a.cash.length:Int))=true:=decide_eq_true (by omega)
  have w3:IntKind.i64.wrap ((i:Int)+1)=((i+1:Nat):Int):=by rw[aj _ (by omega) (by omega)];omega
  have hgi:=hSTg i hi;have hw:=fz _ (gw (z:=dc a.cash a.cs (fOf a.fl) i) (by have:=hsb i;omega) (by have:=hsb i;omega));rw[hcast] at hw;have hps':=hps i hi;have hlp':=hlp i hi;generalize hs0:(ab a.cash a.cs).st (fOf a.fl) i=s0 at *;generalize hE:ak s0=E at *;obtain⟨⟨y1,y2⟩,⟨y3,y4⟩⟩:=E;simp only[ad] at hw;simp only[go_sem,go_sem_proc,age,bo,e6,e7,e15,e17,e110,e111,e112,d1,hgi,hw,aa,agl,agm];refine Rp T bM lB mem a.cash.length a.p (by omega) a.W X i hi s0 (fun t ht=>(hps' t ht).1) (fun k hk=>⟨(hps' 0 (by omega)).2.1 k hk,(Pf hs hpay (gm hk).2 i).1,(hps' 0 (by omega)).2.2 k hk⟩) (.ref 248156 g 4 0 i) (.dat (.sl (ST.map aa))) (.dat (.int .i64 a.cash.length)) (.dat (.int .i64 i)) (cL (m 248020)) (some (g,ay ad (bY i ((ab a.cash a.cs).lst (fOf a.fl) (pOf a.P))))) _ _ ?_ ?_ ?_ ?_ ?_ ?_ ?_ ?_ ?_ ?_ ?_ ?_ ?_ ((hfr.upd (by decide)).upd (by decide)) ?_
  all_goals first | (intro tm' m' k6 k7 k15 k17 k20 k110 k111 k112 q20 q156 hfr') | (simp only[aH,ago,if_false,if_true,e6,e7,e15,e17,e110,e111,e112];done) | (simp only[aA,ago,if_false,if_true,m156];done) | (simp only[aA,if_true];rw[hE];rfl)
  have hlp2:s0+(sumQ a.p.length fun k=>a.W (a.p.getD k 0) i*X k)=(ab a.cash a.cs).lst (fOf a.fl) (pOf a.P) i:=hlp'.symm;rw[hlp2] at q20;have hvs:=wL i ((ab a.cash a.cs).lst (fOf a.fl) (pOf a.P));have hrl:(bY i ((ab a.cash a.cs).lst (fOf a.fl) (pOf a.P))).length=i:=dQ _ _;have hap:=fun (F:aU) cs hcs=>dk cH lY 248156 g 64 (bY i ((ab a.cash a.cs).lst (fOf a.fl) (pOf a.P))) F (cs:=cs) hcs (by omega) (by omega)
  simp only[hrl] at hap;generalize bY i ((ab a.cash a.cs).lst (fOf a.fl) (pOf a.P))=V at *;generalize hV2:bY (i+1) ((ab a.cash a.cs).lst (fOf a.fl) (pOf a.P))=V2 at *;generalize ak ((ab a.cash a.cs).lst (fOf a.fl) (pOf a.P) i)=F at *;obtain⟨⟨a1,a2⟩,⟨a3,a4⟩⟩:=F;have hap':=hap ((a1,a2),(a3,a4)) _ rfl;rw[←hvs] at hap';simp only[ad,agj,agk] at hap' q20;simp only[go_sem,go_sem_proc,age,k6,k7,k15,k17,k20,k110,k111,k112,q20,q156,hap',w3]
  repeat' (first|refine qS ?_ ?_|fail)<;>intro h<;>simp only[h,go_sem,go_sem_proc,age,k6,k7,k15,k17,k20,k110,k111,k112,q20,q156,hap',w3]
  exact⟨(i+1,g+1),by dsimp only;omega,by dsimp only;omega,rfl,rfl,by rw[←hV2],by repeat first | exact hfr' | refine FrK.upd ?_ (by decide)⟩
 ·have d1:decide ((i:Int)<(a.cash.length:Int))=false:=decide_eq_false (by omega)
  obtain rfl:i=a.cash.length:=by omega
  have hvl:(bY a.cash.length ((ab a.cash a.cs).lst (fOf a.fl) (pOf a.P))).length=a.cash.length:=dQ _ _;have hfz:=fun (K:St→Prop) (st:St)=>bO (K:=K) (st:=st) cH 17 248156 g (bY a.cash.length ((ab a.cash a.cs).lst (fOf a.fl) (pOf a.P)))
  rw[hvl] at hfz;simp only[go_sem,go_sem_proc,age,e6,e7,e15,e17,e110,e111,e112,m156,d1,hfz]
  repeat' (first|refine qS ?_ ?_|fail)<;>intro h<;>simp only[h,go_sem,go_sem_proc,age,e6,e7,e15,e17,e110,e111,e112,m156,d1,hfz]
  exact⟨_,rfl,rfl,by repeat first | exact hfr | refine FrK.upd ?_ (by decide) | refine FrK.kill ?_ (by decide)⟩
def DebA.wP (a:DebA) (p:Nat→Bool):DebA:={ a with P:=bL a.cash.length p }
theorem DebA.wP_deb (a:DebA) (p:Nat→Bool) {i:Nat} (hi:i<a.cash.length):(a.wP p).deb i=(a.deb i).sp (p i):=by
 have:(bL a.cash.length p).getD i false=p i:=by rw[agi,yt _ hi];rfl
 unfold DebA.deb DebA.wP DebR.sp;dsimp only;rw[this]
theorem DebA.At.setp {a:DebA} {m:Mem} {p:Nat→Bool} (h:(a.wP p).At m) {i:Nat} (hi:i<a.cash.length) (b:Bool):(a.wP fun j=>if j=i then b else p j).At (aA m (228500+i) (a.gs.getD i 0) (dD ((a.deb i).sp b))):=by
 refine⟨h.can,h.fl,xp _ _,h.gl,?_,fun j hj=>?_⟩
 ·have:=h.row
  simp only[aA];rw[if_neg (show ¬ ((228023:Nat)=228500+i) by omega)];exact this
 ·rw[DebA.wP_deb a _ hj]
  simp only[aA]
  by_cases hji:j=i
  ·subst hji
   rw[if_pos rfl,if_pos rfl]
   rfl
  ·rw[if_neg (show ¬ ((228500+j:Nat)=228500+i) by omega),if_neg hji]
   have:=h.blk j hj;rw[DebA.wP_deb a _ hj] at this;exact this
theorem DebA.wP_self {a:DebA} (h:a.P.length=a.cash.length):a.wP (fun j=>a.P.getD j false)=a:=by
 have:bL a.cash.length (fun j=>a.P.getD j false)=a.P:=by
  refine iZ (d:=false) (xp _ _) h fun j hj=>?_
  rw[agi,yt _ hj];rfl
 unfold DebA.wP;rw[this]
theorem DebA.wP_congr (a:DebA) {p q:Nat→Bool} (h:∀ i,i<a.cash.length→p i=q i):a.wP p=a.wP q:=by
 unfold DebA.wP;rw[JF h]
def OutD (n:Nat) (mem m:Mem):Prop:=∀ k,(∀ i,i<n→k≠228500+i)→m k=mem k
theorem OutD.upd {n i g:Nat} {cs:List MV} {mem m:Mem} (h:OutD n mem m) (hi:i<n):OutD n mem (aA m (228500+i) g cs):=fun k hk=>by
 simp only[aA];rw[if_neg (hk i hi)];exact h k hk
theorem OutD.no {n j:Nat} {mem m:Mem} (h:OutD n mem m) (hn:n≤5) (hj:j≠228) (hm:NoK j mem):NoK j m:=fun k hk=>by
 rw[h k fun i hi=>by omega]
 exact hm k hk
theorem Q2 (T:Tab) (bo:T bp=mkE fK) (aw:T bD=mkE d7) {K:bH→St→Prop} {kk:List Todo} (mem0:Mem) (a:DebA) (p:Nat→Bool) (hfine:a.Fine) (h:Nat→Rat) (hlim:∀ i,i<a.cash.length→cy (h i)) (tm:Nat→MV) (m:Mem)
  (hat:(a.wP p).At m) (hfr:OutD a.cash.length mem0 m) (e0:tm 0 = .ref 228023 a.g 1 0 a.cash.length) (e6:tm 6 = .dat (.sl ((bY a.cash.length h).map ad))) (e8:tm 8 = .dat (.bool false)) (e28:tm 28 = .ref 228023 a.g 1 0 a.cash.length) (e29:tm 29 = .dat (.int .i64 a.cash.length)) (e30:tm 30 = .dat (.int .i64 0))
  (hK:∀ tm' m',tm' 0 = .ref 228023 a.g 1 0 a.cash.length→tm' 6 = .dat (.sl ((bY a.cash.length h).map ad))→tm' 8 = .dat (.bool (oY (ab a.cash a.cs) (fOf a.fl) h p a.cash.length))→(a.wP (iG (ab a.cash a.cs) (fOf a.fl) h p a.cash.length)).At m'→OutD a.cash.length mem0 m'→kont T K kk (.exit 4) ⟨tm',m'⟩) :
  wp T (mf_clear_round.body.sub [1,1,0,0,0,1,1,1,0,1,0]) (kont T K kk) ⟨tm,m⟩:=by
 simp only[mf_clear_round,MCode.sub];obtain⟨hs,h10⟩:=hfine;have hn:=hs.n5
 refine ae [0,6,28,29] [] (fun (i:Nat) tm m=>i≤a.cash.length∧tm 30 = .dat (.int .i64 i)∧tm 8 = .dat (.bool (oY (ab a.cash a.cs) (fOf a.fl) h p i))∧(a.wP (iG (ab a.cash a.cs) (fOf a.fl) h p i)).At m∧OutD a.cash.length mem0 m) (fun i=>a.cash.length-i) 0 (by
  refine⟨by omega,e30,e8,?_,hfr⟩
  have:a.wP (iG (ab a.cash a.cs) (fOf a.fl) h p 0)=a.wP p:=a.wP_congr fun j _=>by
   unfold iG;rw[decide_eq_false (by omega),agr,ags]
  rw[this];exact hat) ?_
 intro vs ms hvs hms;simp only[go_sem,go_sem_proc,age,e0,e6,e28,e29] at hvs hms;subst hvs hms;clear e0 e6 e8 e28 e29 e30 hat hfr tm m;rintro i tm m hk-⟨hi,e30,e8,hat,hfr⟩;simp only[go_sem,go_sem_proc,age,List.cons.injEq] at hk;obtain⟨e0,e6,e28,e29⟩:=hk;rcases agf (i<a.cash.length) with hlt | hge
 ·have d1:decide ((i:Int)<(a.cash.length:Int))=true:=decide_eq_true (by omega)
  have w3:IntKind.i64.wrap ((i:Int)+1)=((i+1:Nat):Int):=by rw[aj _ (by omega) (by omega)];omega
  have hfi:a.fl.getD i 10=(fOf a.fl i:Int)∧fOf a.fl i≤10:=DebA.f_eq (a:=a.wP (iG (ab a.cash a.cs) (fOf a.fl) h p i)) hat ⟨hs,h10⟩ hlt;obtain⟨hfi,hf10⟩:=hfi;have hrow:m 228023=some (a.g,fL a.cash.length fun i => .ptr (228500+i) (a.gs.getD i 0) 0):=hat.row;have hblk:m (228500+i)=some (a.gs.getD i 0,dD ((a.wP (iG (ab a.cash a.cs) (fOf a.fl) h p i)).deb i)):=hat.blk i hlt;rw[DebA.wP_deb a _ hlt,Av] at hblk;have hri:=ns (cR (fun i=>MV.ptr (228500+i) (a.gs.getD i 0) 0) hlt);have hrl:(fL a.cash.length fun i=>MV.ptr (228500+i) (a.gs.getD i 0) 0).length=a.cash.length:=bT _ _;have hok:((a.deb i).sp (p i)).OK:=⟨(a.deb_ok i).cl,(a.deb_ok i).us⟩;have hlen:=jL hok;have qf:agt 1 (agu 22 (dD ((a.deb i).sp (p i))))=[iC (fOf a.fl i:Int)]:=(BI hok).trans (congrArg (fun x=>[iC x]) hfi);have qp:agt 1 (agu 23 (dD ((a.deb i).sp (p i))))=[bC (p i)]:=Nt hok;have qu:=sT hok (k:=fOf a.fl i) (z:=aM a.cs i (fOf a.fl i:Nat)) (cR _ (by omega));have qs:_=dD ((a.deb i).sp true):=zR hok true;have hset:=hat.setp hlt true;have hms:=C6 (ab a.cash a.cs) (fOf a.fl) h p i
  have hsame:(p i=true∨sA (ab a.cash a.cs) (fOf a.fl) h i=false)→a.wP (iG (ab a.cash a.cs) (fOf a.fl) h p (i+1))=a.wP (iG (ab a.cash a.cs) (fOf a.fl) h p i):=fun hh=>a.wP_congr fun j _=>by
   rw[tz]
   by_cases hj:j=i
   ·subst hj
    rw[if_pos rfl,Av];rcases hh with h1 | h1
    ·rw[h1];rfl
    ·rw[h1,ags]
   ·rw[if_neg hj]
  have l1:i+1≤a.cash.length:=by omega
  have l2:fOf a.fl i<11:=by omega
  have l3:(11+fOf a.fl i+1≤24)=True:=eq_true (by omega);have l4:(23+1≤24)=True:=eq_true (by omega);generalize hRW:(fL a.cash.length fun i=>MV.ptr (228500+i) (a.gs.getD i 0) 0)=RW at *;have hKK:228500+i=228500+i:=rfl;generalize hKd:228500+i=KK at *;generalize hDD:dD ((a.deb i).sp (p i))=DC at *;rcases d2:decide ((fOf a.fl i:Int)<10)
  ·have hnew:sA (ab a.cash a.cs) (fOf a.fl) h i=false:=by
    unfold sA;rw[decide_eq_false (by have:=of_decide_eq_false d2;omega),agr]
   rw[hnew,agv,ags] at hms;simp only[go_sem,go_sem_proc,age,e0,e6,e8,e28,e29,e30,hrow,hblk,hri,hrl,hlen,qf,d1,d2,w3,hlt,l1,iC,bC,agw]
   repeat' (first|refine qS ?_ ?_|fail)<;>intro h<;>simp only[h,go_sem,go_sem_proc,age,e0,e6,e8,e28,e29,e30,hrow,hblk,hri,hrl,hlen,qf,d1,d2,w3,hlt,l1,iC,bC,agw]
   exact⟨i+1,by omega,by omega,rfl,by rw[hms],by rw[hsame (.inr hnew)];exact hat,hfr⟩
  ·rcases hpi:p i
   ·rw[hpi] at qp
    have hU:=hs.upto i (fOf a.fl i);have iU:ca (aM a.cs i (fOf a.fl i:Nat)):=gw (by omega) (by omega);have hw:=fz _ iU;have hcmp:=jT (hlim i hlt) (ez iU);have hgt:decide (mM (h i) ((aM a.cs i (fOf a.fl i:Nat):Int):Rat)>0)=decide (((aM a.cs i (fOf a.fl i:Nat):Int):Rat)<h i):=zd
    have hne:sA (ab a.cash a.cs) (fOf a.fl) h i=decide (((aM a.cs i (fOf a.fl i:Nat):Int):Rat)<h i):=by
     unfold sA;rw[dA hs.right,decide_eq_true (show fOf a.fl i<10 by have:=of_decide_eq_true d2;omega),agx]
    rw[←hne] at hgt;have hvg:=eY h hlt;generalize hH:ak (h i)=H at *;generalize hX:ak ((aM a.cs i (fOf a.fl i:Nat):Int):Rat)=X at *;obtain⟨⟨b1,b2⟩,⟨b3,b4⟩⟩:=X;obtain⟨⟨a1,a2⟩,⟨a3,a4⟩⟩:=H;simp only[ad] at hw hcmp;rcases hnew:sA (ab a.cash a.cs) (fOf a.fl) h i
    ·rw[hnew] at hgt
     rw[hpi,hnew,agv,ags] at hms;simp only[go_sem,go_sem_proc,age,bo,aw,e0,e6,e8,e28,e29,e30,hrow,hblk,hri,hrl,hlen,qf,qp,qu,d1,d2,w3,hlt,l1,l2,l3,hw,hcmp,hgt,hvg,ad,iC,bC,agw,agy,agn,agl,agm]
     repeat' (first|refine qS ?_ ?_|fail)<;>intro h<;>simp only[h,go_sem,go_sem_proc,age,bo,aw,e0,e6,e8,e28,e29,e30,hrow,hblk,hri,hrl,hlen,qf,qp,qu,d1,d2,w3,hlt,l1,l2,l3,hw,hcmp,hgt,hvg,ad,iC,bC,agw,agy,agn,agl,agm]
     exact⟨i+1,by omega,by omega,rfl,by rw[hms],by rw[hsame (.inr hnew)];exact hat,hfr⟩
    ·rw[hnew] at hgt
     rw[hpi,hnew,agy,agx,agz] at hms
     have hnx:a.wP (iG (ab a.cash a.cs) (fOf a.fl) h p (i+1))=a.wP fun j=>if j=i then true else iG (ab a.cash a.cs) (fOf a.fl) h p i j:=a.wP_congr fun j _=>by
      rw[tz,hnew,agz]
     rw[←hnx] at hset;have hfr2:=hfr.upd (g:=a.gs.getD i 0) (cs:=dD ((a.deb i).sp true)) hlt;rw[hKd] at hfr2;simp only[go_sem,go_sem_proc,age,bo,aw,e0,e6,e8,e28,e29,e30,hrow,hblk,hri,hrl,hlen,qf,qp,qu,qs,d1,d2,w3,hlt,l1,l2,l3,l4,hw,hcmp,hgt,hvg,ad,iC,bC,agw,agy,agn,agl,agm]
     repeat' (first|refine qS ?_ ?_|fail)<;>intro h<;>simp only[h,go_sem,go_sem_proc,age,bo,aw,e0,e6,e8,e28,e29,e30,hrow,hblk,hri,hrl,hlen,qf,qp,qu,qs,d1,d2,w3,hlt,l1,l2,l3,l4,hw,hcmp,hgt,hvg,ad,iC,bC,agw,agy,agn,agl,agm]
     exact⟨i+1,by omega,by omega,rfl,by rw[hms],hset,hfr2⟩
   ·rw[hpi] at qp
    rw[hpi,agn,agr,ags] at hms;simp only[go_sem,go_sem_proc,age,e0,e6,e8,e28,e29,e30,hrow,hblk,hri,hrl,hlen,qf,qp,d1,d2,w3,hlt,l1,iC,bC,agw,agn]
    repeat' (first|refine qS ?_ ?_|fail)<;>intro h<;>simp only[h,go_sem,go_sem_proc,age,e0,e6,e8,e28,e29,e30,hrow,hblk,hri,hrl,hlen,qf,qp,d1,d2,w3,hlt,l1,iC,bC,agw,agn]
    exact⟨i+1,by omega,by omega,rfl,by rw[hms],by rw[hsame (.inl hpi)];exact hat,hfr⟩
 ·have d1:decide ((i:Int)<(a.cash.length:Int))=false:=decide_eq_false (by omega)
  obtain rfl:i=a.cash.length:=by omega
  simp only[go_sem,go_sem_proc,age,e0,e6,e8,e28,e29,e30,d1]
  repeat' (first|refine qS ?_ ?_|fail)<;>intro h<;>simp only[h,go_sem,go_sem_proc,age,e0,e6,e8,e28,e29,e30,d1]
  refine hK _ _ ?_ ?_ ?_ hat hfr<;>simp only[aH,ago,if_false,e0,e6,e8]
structure RnQ (a:DebA) (mem:Mem):Prop where
 at_:a.At mem
 n1:NoK 248 mem
 n2:NoK 255 mem
 n3:NoK 256 mem
 fine:a.Fine
 inv:∃ g,Inv (ab a.cash a.cs) (fOf a.fl) g
def xV (a:DebA) (mem:Mem):MV→Mem→Prop:=fun m mem'=>m = .tup [.dat (.sl ((bY a.cash.length ((ab a.cash a.cs).top (fOf a.fl))).map ad)),.dat (.bool true)]∧∃ p,(a.wP p).At mem'∧OutD a.cash.length mem mem'
noncomputable def nH:List MV→Mem→Option (MV→Mem→Prop):=QQ (fun (a:DebA) args mem=>args=[.ref 228023 a.g 1 0 a.cash.length]∧RnQ a mem) xV
theorem A6 (a:DebA) (mem:Mem) (h:RnQ a mem):nH [.ref 228023 a.g 1 0 a.cash.length] mem=some (xV a mem):=by
 refine JA (a:=a) ?_ ⟨rfl,h⟩;rintro a b args mem ⟨e1,e2⟩ ⟨e3,e4⟩;rw[DebA.uniq e2.at_ e4.at_]
theorem Ib (T:Tab) (LG:T lD=mkN yK) (bo:T bp=mkE fK) (aw:T bD=mkE d7) (a:DebA) (mem:Mem) (ha:RnQ a mem) :
  wp T mf_clear_round.body (pH mf_clear_round.res (xV a mem)) ⟨ax [.ref 228023 a.g 1 0 a.cash.length],mem⟩:=by
 obtain⟨hat0,n1,n2,n3,hfine,g0,hinv⟩:=ha;have hs:=hfine.sm;have hn:=hs.n5;have hd:=hs.ok;refine ap ?_;simp only[mf_clear_round];simp only[go_sem,go_sem_proc,age]
 refine ae [0,11,12] [] (fun (i:Nat) tm m=>i≤a.cash.length∧tm 13 = .dat (.int .i64 i)∧(a.wP fun j=>if j<i then false else a.P.getD j false).At m∧OutD a.cash.length mem m) (fun i=>a.cash.length-i) 0 (by
  refine⟨by omega,rfl,?_,fun _ _=>rfl⟩
  have:(a.wP fun j=>if j<0 then false else a.P.getD j false)=a:=(a.wP_congr fun j _=>by rw[if_neg (by omega)]).trans (DebA.wP_self hat0.pl);rw[this];exact hat0) ?_
 intro vs ms hvs hms;simp only[go_sem,go_sem_proc,age] at hvs hms;subst hvs hms;rintro i tm m hk-⟨hi,e13,hat,hfr⟩;simp only[go_sem,go_sem_proc,age,List.cons.injEq] at hk;obtain⟨e0,e11,e12⟩:=hk;rcases agf (i<a.cash.length) with hlt | hge
 ·have d1:decide ((i:Int)<(a.cash.length:Int))=true:=decide_eq_true (by omega)
  have w3:IntKind.i64.wrap ((i:Int)+1)=((i+1:Nat):Int):=by rw[aj _ (by omega) (by omega)];omega
  have hrow:m 228023=some (a.g,fL a.cash.length fun i => .ptr (228500+i) (a.gs.getD i 0) 0):=hat.row;have hblk:m (228500+i)=some (a.gs.getD i 0,_):=hat.blk i hlt;rw[DebA.wP_deb a _ hlt] at hblk;have hri:=ns (cR (fun i=>MV.ptr (228500+i) (a.gs.getD i 0) 0) hlt);have hrl:(fL a.cash.length fun i=>MV.ptr (228500+i) (a.gs.getD i 0) 0).length=a.cash.length:=bT _ _;have hok:((a.deb i).sp (if i<i then false else a.P.getD i false)).OK:=⟨(a.deb_ok i).cl,(a.deb_ok i).us⟩;have hlen:=jL hok;have qs:_=dD ((a.deb i).sp false):=zR hok false;have hset:=hat.setp hlt false;have hfr2:=hfr.upd (g:=a.gs.getD i 0) (cs:=dD ((a.deb i).sp false)) hlt
  have hnx:(a.wP fun j=>if j<i+1 then false else a.P.getD j false)=a.wP fun j=>if j=i then false else if j<i then false else a.P.getD j false:=a.wP_congr fun j _=>by
   by_cases h1:j=i
   ·rw[if_pos h1,if_pos (by omega)]
   ·rw[if_neg h1]
    by_cases h2:j<i
    ·rw[if_pos h2,if_pos (by omega)]
    ·rw[if_neg h2,if_neg (by omega)]
  rw[←hnx] at hset;have l1:i+1≤a.cash.length:=by omega
  have l4:(23+1≤24)=True:=eq_true (by omega);generalize hRW:(fL a.cash.length fun i=>MV.ptr (228500+i) (a.gs.getD i 0) 0)=RW at *;generalize hKd:228500+i=KK at *;generalize hDD:dD ((a.deb i).sp (if i<i then false else a.P.getD i false))=DC at *;simp only[go_sem,go_sem_proc,age,e0,e11,e12,e13,hrow,hblk,hri,hrl,hlen,qs,d1,w3,hlt,l1,l4,iC,bC,agw]
  repeat' (first|refine qS ?_ ?_|fail)<;>intro h<;>simp only[h,go_sem,go_sem_proc,age,e0,e11,e12,e13,hrow,hblk,hri,hrl,hlen,qs,d1,w3,hlt,l1,l4,iC,bC,agw]
  exact⟨i+1,by omega,by omega,rfl,hset,hfr2⟩
 ·have d1:decide ((i:Int)<(a.cash.length:Int))=false:=decide_eq_false (by omega)
  obtain rfl:i=a.cash.length:=by omega
  have hnx:(a.wP fun j=>if j<a.cash.length then false else a.P.getD j false)=a.wP fun _=>false:=a.wP_congr fun j hj=>by rw[if_pos hj]
  rw[hnx] at hat;simp only[go_sem,go_sem_proc,age,e0,e11,e12,e13,d1]
  refine ae [0] [] (fun (p:Nat→Bool) tm m=>(a.wP p).At m∧OutD a.cash.length mem m∧PayG (ab a.cash a.cs) (fOf a.fl) (pOf (bL a.cash.length p))) (fun p=>kV a.cash.length fun i=>if p i then 0 else 1) (fun _=>false) (by
   refine⟨hat,hfr,?_⟩;rw[Gy];exact⟨hd,g0,hinv,Pay.first hd hinv⟩) ?_
  intro vs ms hvs hms;simp only[go_sem,go_sem_proc,age,e0] at hvs hms;subst hvs hms;clear e0 e11 e12 e13 hfr hat;rintro p tm m e0-⟨hat,hfr,hpay⟩;simp only[go_sem,go_sem_proc,age,List.cons.injEq] at e0;have hN:=Da (a.wP p) m ⟨hat,hfr.no hn (by decide) n1,hfr.no hn (by decide) n2,hfr.no hn (by decide) n3,⟨hfine.sm,hfine.h10⟩,hpay⟩;have hL:lsD (a.wP p) = .tup [.sl ((bY a.cash.length ((ab a.cash a.cs).lst (fOf a.fl) (pOf (bL a.cash.length p)))).map ad),.bool true]:=rfl;rw[hL,show (a.wP p).g=a.g from rfl,show (a.wP p).cash=a.cash from rfl] at hN;simp only[go_sem,go_sem_proc,age,LG,e0,hN,agn];refine Q2 T bo aw m a p hfine ((ab a.cash a.cs).lst (fOf a.fl) (pOf (bL a.cash.length p))) (fun i hi=>dU (IP hs hpay hi) (by omega)) _ _ hat (fun _ _=>rfl) ?_ ?_ ?_ ?_ ?_ ?_ ?_
  all_goals first | (intro tm2 m2 k0 k6 k8 hat2 hfr2) | (simp only[aH,ago,if_false,if_true,e0];done)
  obtain⟨hok,g1,hi1,hp1⟩:=hpay;rcases hm:oY (ab a.cash a.cs) (fOf a.fl) ((ab a.cash a.cs).lst (fOf a.fl) (pOf (bL a.cash.length p))) p a.cash.length
  ·rw[hm] at k8
   have htop:=hp1.is_top hd hi1 fun i hi h1 h2=>pOf_bL.2 ⟨hi,MF hm hi h1 h2⟩
   rw[jp (N:=a.cash.length) htop] at k6;simp only[go_sem,go_sem_proc,age,k0,k6,k8,agy]
   repeat' (first|refine qS ?_ ?_|fail)<;>intro h<;>simp only[h,go_sem,go_sem_proc,age,k0,k6,k8,agy]
   exact⟨_,rfl,rfl,_,hat2,fun k hk=>(hfr2 k hk).trans (hfr k hk)⟩
  ·rw[hm] at k8
   simp only[go_sem,go_sem_proc,age,k0,k6,k8,agn]
   repeat' (first|refine qS ?_ ?_|fail)<;>intro h<;>simp only[h,go_sem,go_sem_proc,age,k0,k6,k8,agn]
   refine⟨_,K8 hm,hat2,fun k hk=>(hfr2 k hk).trans (hfr k hk),?_⟩
   have hsn:=GL (d:=ab a.cash a.cs) (f:=fOf a.fl) (h:=(ab a.cash a.cs).lst (fOf a.fl) (pOf (bL a.cash.length p))) (p:=p);have hdn:(ab a.cash a.cs).n=a.cash.length:=rfl;rw[hdn] at hsn;rw[hsn];exact⟨hd,g1,hi1,hp1.succ hd hi1⟩
def opB (c:Int) (q:Nat→MV) (us:Nat→Int) (f:Int) (p:Bool):List MV:=iC c::(fL 10 q++((fL 11 us).map iC++[iC f,bC p]))
theorem sB (c:Int) (q:Nat→MV) (us:Nat→Int) (f:Int) (p:Bool):(opB c q us f p).length=24:=by
 simp [opB,bT]
theorem xu {c:Int} {q:Nat→MV} {us:Nat→Int} {f:Int} {p:Bool} {k:Nat} (hk:k<10):(opB c q us f p)[1+k]?=some (q k):=by
 unfold opB;rw[agA,agB,agC (by rw[bT];exact hk)];exact cR q hk
theorem Oj {c:Int} {q:Nat→MV} {us:Nat→Int} {f:Int} {p:Bool} {k:Nat} (hk:k<10):agt 1 (agu (1+k) (opB c q us f p))=[q k]:=ns (xu hk)
theorem OF {c:Int} {q:Nat→MV} {us:Nat→Int} {f:Int} {p:Bool} {k:Nat} (hk:k<11):agt 1 (agu (11+k) (opB c q us f p))=[.dat (.int .i64 (us k))]:=by
 refine ns ?_;unfold opB;rw[show 11+k=(10+k)+1 by omega,agB,agD (by rw[bT];omega),bT,agC (by rw[agl,bT];omega),show 10+k-10=k by omega,agm,cR us hk]
 rfl
theorem lw {l:List MV} {k:Nat} {v:MV} (hk:k<l.length):agt k l++[v]++agu (k+1) l=l.set k v:=by
 rw[List.set_eq_take_append_cons_drop,if_pos hk];simp
theorem tn {c:Int} {q:Nat→MV} {us:Nat→Int} {f:Int} {p:Bool} {k:Nat} (hk:k<10) (v:MV):(opB c q us f p).set (1+k) v=opB c (fun j=>if j=k then v else q j) us f p:=by
 unfold opB;rw[agA,agE,agF _ _ (by rw[bT];exact hk),nr]
theorem H3 {c:Int} {q:Nat→MV} {us:Nat→Int} {f:Int} {p:Bool} {k:Nat} (hk:k<11) (v:Int):(opB c q us f p).set (11+k) (.dat (.int .i64 v))=opB c q (fun j=>if j=k then v else us j) f p:=by
 unfold opB;rw[show 11+k=(10+k)+1 by omega,agE,agG _ _ (by rw[bT];omega),bT,agF _ _ (by rw[agl,bT];omega),show 10+k-10=k by omega,←nr,List.map_set]
 rfl
theorem gT {c:Int} {q q':Nat→MV} {us us':Nat→Int} {f:Int} {p:Bool} (h:∀ k,k<10→q k=q' k) (h':∀ k,k<11→us k=us' k):opB c q us f p=opB c q' us' f p:=by
 unfold opB;rw[bK h,bK h']
theorem M8 (T:Tab) {K:bH→St→Prop} {kk:List Todo} (m0:Mem) (KK gK g9:Nat) (c:Int) (q:Nat→MV) (us:Nat→Int) (c1 c2:Int) (r:Nat) (am:Int) (hr:r<10) (hb:∀ j,0≤us j∧us j≤4000000000000000000) (ham:0≤am∧am≤1000000000000000) (hKK:KK≠228009) (v5 v25 v26 v27:MV) (tm:Nat→MV) (m:Mem)
  (e5:tm 5=v5) (e9:tm 9 = .ptr 228009 g9 0) (e10:tm 10 = .ptr KK gK 0) (e11:tm 11 = .dat (.int .i64 (r+1:Nat))) (e25:tm 25=v25) (e26:tm 26=v26) (e27:tm 27=v27) (m9:m0 228009=some (g9,[.dat (.int .i64 c1),.dat (.int .i64 c2),.dat (.int .i64 r),.dat (.int .i64 am)])) (mK:m KK=some (gK,opB c q us 10 false)) (hfr:∀ k,k≠KK→m k=m0 k)
  (hK:∀ tm' m',tm' 5=v5→tm' 25=v25→tm' 26=v26→tm' 27=v27→m' KK=some (gK,opB c q (fun j=>us j+if r<j then am else 0) 10 false)→(∀ k,k≠KK→m' k=m0 k)→kont T K kk (.exit 4) ⟨tm',m'⟩) :
  wp T (mf_clear_open.body.sub [1,1,1,0,1,0,0,1,1,0,0,1,1,1,1,0]) (kont T K kk) ⟨tm,m⟩:=by
 simp only[mf_clear_open,MCode.sub]
 refine ae [5,9,10,25,26,27] [] (fun (k:Nat) tm m=>r<k∧k≤11∧tm 11 = .dat (.int .i64 k)∧m KK=some (gK,opB c q (fun j=>us j+if r<j∧j<k then am else 0) 10 false)∧∀ k,k≠KK→m k=m0 k) (fun k=>11-k) (r+1) (by
  refine⟨by omega,by omega,e11,?_,hfr⟩
  rw[mK]
  congr 2
  exact gT (fun _ _=>rfl) fun j _=>by rw[if_neg (by omega)];omega) ?_
 intro vs ms hvs hms;simp only[go_sem,go_sem_proc,age,e5,e9,e10,e25,e26,e27] at hvs hms;subst hvs hms;clear e5 e9 e10 e11 e25 e26 e27 mK hfr tm m;rintro k tm m hk-⟨hrk,hk11,e11,mK,hfr⟩;simp only[go_sem,go_sem_proc,age,List.cons.injEq] at hk;obtain⟨e5,e9,e10,e25,e26,e27⟩:=hk;have q9:=(hfr 228009 (Ne.symm hKK)).trans m9;rcases agf (k≤10) with hlt | hge
 ·have d1:decide ((k:Int)≤10)=true:=decide_eq_true (by omega)
  have w3:IntKind.i64.wrap ((k:Int)+1)=((k+1:Nat):Int):=by rw[aj _ (by omega) (by omega)];omega
  have hlen:=sB c q (fun j=>us j+if r<j∧j<k then am else 0) 10 false;have hg:=OF (c:=c) (q:=q) (us:=fun j=>us j+if r<j∧j<k then am else 0) (f:=10) (p:=false) (k:=k) (by omega);have hst:=(lw (l:=opB c q (fun j=>us j+if r<j∧j<k then am else 0) 10 false) (k:=11+k) (v:=.dat (.int .i64 (us k+am))) (by rw[sB];omega)).trans (H3 (by omega) (us k+am))
  have hnx:opB c q (fun j=>if j=k then us k+am else us j+if r<j∧j<k then am else 0) 10 false=opB c q (fun j=>us j+if r<j∧j<k+1 then am else 0) 10 false:=gT (fun _ _=>rfl) fun j _=>by
   by_cases hj:j=k
   ·rw[if_pos hj,hj,if_pos ⟨hrk,by omega⟩]
   ·rw[if_neg hj]
    by_cases h2:r<j∧j<k
    ·rw[if_pos h2,if_pos ⟨h2.1,by omega⟩]
    ·rw[if_neg h2,if_neg (by omega)]
  rw[hnx] at hst;rw[if_neg (by omega),agH] at hg;have wA:IntKind.i64.wrap (us k+am)=us k+am:=by have:=hb k;rw[aj _ (by omega) (by omega)]
  have l2:k<11:=by omega
  have l3:(11+k+1≤24)=True:=eq_true (by omega);have b9:(KK==228009)=false:=beq_eq_false_iff_ne.2 hKK;have b9':(228009==KK)=false:=beq_eq_false_iff_ne.2 (Ne.symm hKK);generalize opB c q (fun j=>us j+if r<j∧j<k then am else 0) 10 false=D1 at *;generalize hD2:opB c q (fun j=>us j+if r<j∧j<k+1 then am else 0) 10 false=D2 at *;refine qI ?_
  repeat' (intro h<;>simp only[h,go_sem,go_sem_proc,age,e5,e9,e10,e11,e25,e26,e27,q9,mK,d1,w3,hlen,hg,hst,wA,l2,l3,b9,b9',agw]<;>try refine qS ?_ ?_)
  refine⟨k+1,by omega,by omega,by omega,rfl,by rw[hD2],fun j hj=>?_⟩
  simp only[aA,hj,if_false];exact hfr j hj
 ·have d1:decide ((k:Int)≤10)=false:=decide_eq_false (by omega)
  obtain rfl:k=11:=by omega
  have hnx:opB c q (fun j=>us j+if r<j∧j<11 then am else 0) 10 false=opB c q (fun j=>us j+if r<j then am else 0) 10 false:=gT (fun _ _=>rfl) fun j hj=>by
   by_cases h2:r<j
   ·rw[if_pos ⟨h2,hj⟩,if_pos h2]
   ·rw[if_neg (by omega),if_neg h2]
  rw[hnx] at mK;refine qI ?_
  repeat' (intro h<;>simp only[h,go_sem,go_sem_proc,age,e5,e9,e10,e11,e25,e26,e27,d1]<;>try refine qS ?_ ?_)
  refine hK _ _ ?_ ?_ ?_ ?_ mK hfr<;>simp only[aH,ago,if_false,e5,e25,e26,e27]
def cM (l:List ClR) (gg:Nat→Nat→Nat) (i k:Nat):MV:=if aT l i k=[] then .nil else .ref (228600+10*i+k) (gg i k) 4 0 (aT l i k).length
structure OpAt (cash:List Int) (l:List ClR) (g:Nat) (gs:Nat→Nat) (gg:Nat→Nat→Nat) (m:Mem):Prop where
 row:m 228023=some (g,fL cash.length fun i => .ptr (228500+i) (gs i) 0)
 blk:∀ i,i<cash.length→m (228500+i)=some (gs i,opB (cash.getD i 0) (cM l gg i) (fun k=>aM l i (k:Nat)) 10 false)
 cel:∀ i k,i<cash.length→k<10→aT l i k≠[]→m (228600+10*i+k)=some (gg i k,ay clL (aT l i k))
theorem Kj (l:List ClR) (c:ClR) (i k:Nat):aT (l++[c]) i k=if c.1=(i:Int)∧c.2.2.1=(k:Int) then aT l i k++[c] else aT l i k:=by
 unfold aT;rw[List.filter_append]
 by_cases h:c.1=(i:Int)∧c.2.2.1=(k:Int)
 ·rw[if_pos h,List.filter_cons_of_pos (by simp [h.1,h.2]),agI]
 ·rw[if_neg h,List.filter_cons_of_neg (by simpa using h),agI,List.append_nil]
theorem mI (l:List ClR) (c1 c2 c3 c4:Int) (i k:Nat):aT (l++[(c1,c2,c3,c4)]) i k=if c1=(i:Int)∧c3=(k:Int) then aT l i k++[(c1,c2,c3,c4)] else aT l i k:=Kj l _ i k
theorem Kd (l:List ClR) (c:ClR) (i r:Int):aM (l++[c]) i r=aM l i r+if c.1=i∧c.2.2.1<r then c.2.2.2 else 0:=by
 unfold aM;rw[kH]
theorem wm (l:List ClR) (c1 c2 c3 c4 i r:Int):aM (l++[(c1,c2,c3,c4)]) i r=aM l i r+if c1=i∧c3<r then c4 else 0:=Kd l _ i r
theorem OpAt.next {cash:List Int} {l:List ClR} {g:Nat} {gs:Nat→Nat} {gg:Nat→Nat→Nat} {m m':Mem} (h:OpAt cash l g gs gg m) (hn:cash.length≤5) {c1 c3:Nat} {c2 c4:Int} (hc1:c1<cash.length) (hc3:c3<10) (gn:Nat)
  (hrow:m' 228023=m 228023) (hoth:∀ i,i<cash.length→i≠c1→m' (228500+i)=m (228500+i)) (hblk:m' (228500+c1)=some (gs c1,opB (cash.getD c1 0) (fun k=>if k=c3 then .ref (228600+10*c1+c3) gn 4 0 ((aT l c1 c3).length+1) else cM l gg c1 k) (fun k=>aM l c1 (k:Nat)+if c3<k then c4 else 0) 10 false))
  (hcel:m' (228600+10*c1+c3)=some (gn,ay clL (aT l c1 c3++[((c1:Int),c2,(c3:Int),c4)]))) (hcoth:∀ i k,i<cash.length→k<10→¬ (i=c1∧k=c3)→m' (228600+10*i+k)=m (228600+10*i+k)):OpAt cash (l++[((c1:Int),c2,(c3:Int),c4)]) g gs (fun i k=>if i=c1∧k=c3 then gn else gg i k) m':=by
 refine⟨by rw[hrow];exact h.row,fun i hi=>?_,fun i k hi hk hne=>?_⟩
 ·by_cases hic:i=c1
  ·subst hic
   rw[hblk]
   congr 2
   refine gT (fun k hk=>?_) fun k hk=>?_
   ·unfold cM
    by_cases hkc:k=c3
    ·subst hkc
     have e1:aT (l++[((i:Int),c2,(k:Int),c4)]) i k=aT l i k++[((i:Int),c2,(k:Int),c4)]:=by rw[mI,if_pos ⟨rfl,rfl⟩]
     rw[e1,if_pos rfl,if_neg (by simp),List.length_append];simp
    ·have e1:aT (l++[((i:Int),c2,(c3:Int),c4)]) i k=aT l i k:=by rw[mI,if_neg (by omega)]
     rw[if_neg hkc,e1];dsimp only;rw[if_neg (show ¬ (i=i∧k=c3) by omega)]
   ·rw[wm]
    by_cases hk2:c3<k
    ·rw[if_pos hk2,if_pos (by omega)]
    ·rw[if_neg hk2,if_neg (by omega)]
  ·rw[hoth i hi hic,h.blk i hi]
   congr 2
   refine gT (fun k hk=>?_) fun k hk=>?_
   ·unfold cM
    have e1:aT (l++[((c1:Int),c2,(c3:Int),c4)]) i k=aT l i k:=by rw[mI,if_neg (by omega)]
    rw[e1];dsimp only;rw[if_neg (show ¬ (i=c1∧k=c3) by omega)]
   ·rw[wm,if_neg (by omega),agH]
 ·by_cases hic:i=c1∧k=c3
  ·obtain⟨rfl,rfl⟩:=hic
   have e1:aT (l++[((i:Int),c2,(k:Int),c4)]) i k=aT l i k++[((i:Int),c2,(k:Int),c4)]:=by rw[mI,if_pos ⟨rfl,rfl⟩]
   rw[e1,if_pos ⟨rfl,rfl⟩];exact hcel
  ·have e1:aT (l++[((c1:Int),c2,(c3:Int),c4)]) i k=aT l i k:=by rw[mI,if_neg (by omega)]
   rw[e1] at hne ⊢;rw[if_neg hic,hcoth i k hi hk hic];exact h.cel i k hi hk hne
theorem rK {K:St→Prop} {tm:Nat→MV} {mem mem':Mem} (h:MoveS mem mem') (hK:∀ M,M=mem'→K ⟨tm,M⟩):dP K ⟨tm,mem⟩ .many:=⟨mem',.step h (.refl _),hK _ rfl⟩
theorem rC {K:St→Prop} {tm:Nat→MV} {mem:Mem} (hK:∀ M,M=mem→K ⟨tm,M⟩):dP K ⟨tm,mem⟩ .many:=⟨mem,.refl _,hK _ rfl⟩
theorem cf {m:Mem} {k g:Nat} {cs:List MV}:aA m k g cs k=some (g,cs):=by simp [aA]
theorem aF {m:Mem} {k j g:Nat} {cs:List MV} (h:k≠j):aA m j g cs k=m k:=by
 simp only[aA];rw[if_neg h]
theorem QA (T:Tab) {K:bH→St→Prop} {kk:List Todo} (mem0:Mem) (cash:List Int) (cs:List ClR) (hs:SmallD cash cs) (g:Nat) (gs:Nat→Nat) (gg:Nat→Nat→Nat) (tm:Nat→MV) (m:Mem)
  (e5:tm 5 = .ref 228023 g 1 0 cash.length) (e25:tm 25 = .dat (.sl (cs.map clL))) (e26:tm 26 = .dat (.int .i64 cs.length)) (e27:tm 27 = .dat (.int .i64 0)) (hat:OpAt cash [] g gs gg m) (hfr:FrK 228 mem0 m)
  (hK:∀ tm' m' gg',tm' 5 = .ref 228023 g 1 0 cash.length→OpAt cash cs g gs gg' m'→FrK 228 mem0 m'→kont T K kk (.exit 2) ⟨tm',m'⟩) :
  wp T (mf_clear_open.body.sub [1,1,1,0,1,0]) (kont T K kk) ⟨tm,m⟩:=by
 simp only[mf_clear_open,MCode.sub];have hn:=hs.n5;have hr:=(rightD_iff.1 hs.right).2.2.2;have h12:=hs.c12;refine ae [5,25,26] [] (fun ((t,gg):Nat × (Nat→Nat→Nat)) tm m=>t≤cs.length∧tm 27 = .dat (.int .i64 t)∧OpAt cash (cs.take t) g gs gg m∧FrK 228 mem0 m) (fun (t,_)=>cs.length-t) (0,gg) (by refine⟨by omega,e27,by rw[List.take_zero];exact hat,hfr⟩) ?_;intro vs ms hvs hms;simp only[go_sem,go_sem_proc,age,e5,e25,e26] at hvs hms;subst hvs hms;clear e5 e25 e26 e27 hat hfr tm m;rintro⟨t,gg⟩ tm m hk-⟨ht,e27,hat,hfr⟩;simp only[go_sem,go_sem_proc,age,List.cons.injEq] at hk;obtain⟨e5,e25,e26⟩:=hk;rcases agf (t<cs.length) with hlt | hge
 ·have d1:decide ((t:Int)<(cs.length:Int))=true:=decide_eq_true (by omega)
  have w3:IntKind.i64.wrap ((t:Int)+1)=((t+1:Nat):Int):=by rw[aj _ (by omega) (by omega)];omega
  obtain⟨⟨c1,c2,c3,c4⟩,hx⟩:∃ c,cs[t]?=some c:=⟨_,agh hlt⟩;have hrc:=hr _ (agJ hx);dsimp only at hrc;obtain⟨c1,rfl⟩:∃ k:Nat,c1=(k:Int):=⟨c1.toNat,by omega⟩
  obtain⟨c3,rfl⟩:∃ k:Nat,c3=(k:Int):=⟨c3.toNat,by omega⟩
  have htk:cs.take (t+1)=cs.take t++[((c1:Int),c2,(c3:Int),c4)]:=by rw[List.take_add_one,hx];rfl
  generalize hl:cs.take t=l at *;have hll:l.length≤12:=by rw[←hl,List.length_take];omega
  have hc1:c1<cash.length:=by omega
  have hc3:c3<10:=by omega
  have hrow:=hat.row;have hblk:=hat.blk c1 hc1;have hri:=ns (cR (fun i=>MV.ptr (228500+i) (gs i) 0) hc1);have hrl:(fL cash.length fun i=>MV.ptr (228500+i) (gs i) 0).length=cash.length:=bT _ _;have hlen:=sB (cash.getD c1 0) (cM l gg c1) (fun k=>aM l c1 (k:Nat)) 10 false;have qc:=Oj (c:=cash.getD c1 0) (q:=cM l gg c1) (us:=fun k=>aM l c1 (k:Nat)) (f:=10) (p:=false) hc3;have qs:=fun v=>(lw (l:=opB (cash.getD c1 0) (cM l gg c1) (fun k=>aM l c1 (k:Nat)) 10 false) (k:=1+c3) (v:=v) (by rw[sB];omega)).trans (tn hc3 v)
  have l1:c1+1≤cash.length:=by omega
  have l3:(1+c3+1≤24)=True:=eq_true (by omega);have w1:IntKind.i64.wrap ((c3:Int)+1)=((c3+1:Nat):Int):=by rw[aj _ (by omega) (by omega)];omega
  generalize hRW:(fL cash.length fun i=>MV.ptr (228500+i) (gs i) 0)=RW at *;generalize hDD:opB (cash.getD c1 0) (cM l gg c1) (fun k=>aM l c1 (k:Nat)) 10 false=DC at *;generalize hKd:228500+c1=KK at *;have n9:(KK=228009)=False:=eq_false (by omega);have n48:(KK=228048)=False:=eq_false (by omega);have b9:(KK==228009)=false:=beq_eq_false_iff_ne.2 (by omega);have b9':(228009==KK)=false:=beq_eq_false_iff_ne.2 (by omega);have b48:(KK==228048)=false:=beq_eq_false_iff_ne.2 (by omega);have b48':(228048==KK)=false:=beq_eq_false_iff_ne.2 (by omega);have hml:(1≤maxLen)=True:=eq_true (by decide);have hUb:=fun j=>(DV hs.right).upto c1 j
  have hub:∀ j:Nat,0≤aM l c1 (j:Nat)∧aM l c1 (j:Nat)≤4000000000000000000:=fun j=>by
   have:=(DV hs.right).sum (fun c=>c.1=(c1:Int)∧c.2.2.1<(j:Int)) t;rw[hl] at this;unfold aM;omega
  generalize hEd:228600+10*c1+c3=EK at *;have a1:(228009=KK)=False:=eq_false (by omega);have a2:(228009=EK)=False:=eq_false (by omega);have a3:(228048=EK)=False:=eq_false (by omega);have a4:(228048=KK)=False:=eq_false (by omega);have a5:(EK=KK)=False:=eq_false (by omega);have a6:(KK=EK)=False:=eq_false (by omega);have a7:(EK=228009)=False:=eq_false (by omega);have a8:(EK=228048)=False:=eq_false (by omega);have a9:(228009=228048)=False:=eq_false (by omega)
  have tail:∀ (tm':Nat→MV) (M2:Mem) (gn g9:Nat),tm' 5 = .ref 228023 g 1 0 cash.length→tm' 25 = .dat (.sl (cs.map clL))→tm' 26 = .dat (.int .i64 cs.length)→tm' 27 = .dat (.int .i64 t)→M2 KK=some (gs c1,opB (cash.getD c1 0) (fun k=>if k=c3 then .ref EK gn 4 0 ((aT l c1 c3).length+1) else cM l gg c1 k) (fun k=>aM l c1 (k:Nat)  + if c3<k then c4 else 0) 10 false)→M2 EK=some (gn,ay clL (aT l c1 c3++[((c1:Int),c2,(c3:Int),c4)]))→(∀ k:Nat,k≠228009→k≠228048→k≠KK→k≠EK→M2 k=m k)→OpAt cash (cs.take (t+1)) g gs (fun i k=>if i=c1∧k=c3 then gn else gg i k) M2∧FrK 228 mem0 M2:=by
   intro tm' M2 gn g9 k5 k25 k26 k27 hMK hME hMo;rw[htk];refine⟨OpAt.next hat hn hc1 hc3 gn ?_ (fun i hi hne=>?_) ?_ ?_ fun i k hi hk hne=>?_,fun k hk=>?_⟩
   ·exact hMo 228023 (by omega) (by omega) (by omega) (by omega)
   ·exact hMo (228500+i) (by omega) (by omega) (by omega) (by omega)
   ·rw[hKd,hEd];exact hMK
   ·rw[hEd];exact hME
   ·exact hMo (228600+10*i+k) (by omega) (by omega) (by omega) (by omega)
   ·rw[hMo k (by omega) (by omega) (by omega) (by omega)]
    exact hfr k hk
  by_cases hce:aT l c1 c3=[]
  ·have hcm:cM l gg c1 c3 = .nil:=by unfold cM;rw[if_pos hce]
   rw[hcm] at qc;simp only[go_sem,go_sem_proc,age,hml,e5,e25,e26,e27,hx,hrow,hblk,hri,hrl,hlen,qc,qs,d1,l1,l3,hc1,hc3,n9,n48,b9,b9',b48,b48',clL,agw,agl,agm];refine rK (MoveS.mref KK (gs c1) _ (1+c3) 228048 (cL (m 228048)) 4 0 1 _ EK cf (xu hc3 |>.trans (by rw[if_pos rfl])) ((aF (by omega)).trans cf) (by show (228048:Nat)≠KK;omega) (by show EK≠(228048:Nat);omega) (by show EK≠KK;omega)) ?_;intro M2 hM2;rw[tn hc3] at hM2
   have hM9:M2 228009=some (cL (m 228009),[.dat (.int .i64 c1),.dat (.int .i64 c2),.dat (.int .i64 c3),.dat (.int .i64 c4)]):=by
    rw[hM2];simp only[ll,a1,a2,a9,if_false,if_true]
   have hMK:∃ gn,M2 KK=some (gs c1,opB (cash.getD c1 0) (fun k=>if k=c3 then .ref EK gn 4 0 ((aT l c1 c3).length+1) else cM l gg c1 k) (fun k=>aM l c1 (k:Nat)) 10 false)∧M2 EK=some (gn,ay clL (aT l c1 c3++[((c1:Int),c2,(c3:Int),c4)])):=by
    rw[hce];apply Exists.intro;apply And.intro
    rotate_left
    ·rw[hM2];simp only[ll,a5,if_false,if_true];rfl
    ·rw[hM2];simp only[ll,if_true]
     congr 2
     refine gT (fun k _=>?_) fun _ _=>rfl
     by_cases hk:k=c3
     ·rw[if_pos hk,if_pos hk];rfl
     ·rw[if_neg hk,if_neg hk,if_neg hk]
   obtain⟨gn,hMK,hME⟩:=hMK
   have hMo:∀ k:Nat,k≠228009→k≠228048→k≠KK→k≠EK→M2 k=m k:=fun k h1 h2 h3 h4=>by
    rw[hM2];simp only[ll,h1,h2,h3,h4,if_false]
   clear hM2;simp only[go_sem,go_sem_proc,age,hM9,w1,a1];refine M8 T M2 KK (gs c1) (cL (m 228009)) (cash.getD c1 0) (fun k=>if k=c3 then .ref EK gn 4 0 ((aT l c1 c3).length+1) else cM l gg c1 k) (fun k=>aM l c1 (k:Nat)) c1 c2 c3 c4 hc3 hub (by omega) (by omega) (.ref 228023 g 1 0 cash.length) (.dat (.sl (cs.map clL))) (.dat (.int .i64 cs.length)) (.dat (.int .i64 t)) _ _ ?_ ?_ ?_ ?_ ?_ ?_ ?_ hM9 hMK (fun _ _=>rfl) ?_
   all_goals first | (intro tm' m' k5 k25 k26 k27 qK qo) | (simp only[aH,ago,if_false,if_true,e5,e25,e26,e27];done)
   have hfin:=tail tm' m' gn 0 k5 k25 k26 k27 qK (by rw[qo EK (by omega)];exact hME) fun k h1 h2 h3 h4=>by rw[qo k h3];exact hMo k h1 h2 h3 h4
   refine qI ?_
   repeat' (intro h<;>simp only[h,go_sem,go_sem_proc,age,k5,k25,k26,k27,w3]<;>try refine qS ?_ ?_)
   exact⟨(t+1,fun i k=>if i=c1∧k=c3 then gn else gg i k),by dsimp only;omega,by dsimp only;omega,rfl,hfin.1,hfin.2⟩
  ·have hcm:cM l gg c1 c3 = .ref EK (gg c1 c3) 4 0 (aT l c1 c3).length:=by unfold cM;rw[if_neg hce,hEd]
   rw[hcm] at qc;have hcel:=hat.cel c1 c3 hc1 hc3 hce;rw[hEd] at hcel;have hcl:(aT l c1 c3).length≤12:=Nat.le_trans (List.length_filter_le _ _) hll;have hap:=dk kh sD EK (gg c1 c3) 32 (aT l c1 c3) ((c1:Int),c2,(c3:Int),c4) (cs:=[.dat (.int .i64 c1),.dat (.int .i64 c2),.dat (.int .i64 c3),.dat (.int .i64 c4)]) rfl (by omega) (by omega);have b7:(EK==228009)=false:=beq_eq_false_iff_ne.2 (by omega);have b7':(228009==EK)=false:=beq_eq_false_iff_ne.2 (by omega);have b8:(EK==KK)=false:=beq_eq_false_iff_ne.2 (by omega);have b8':(KK==EK)=false:=beq_eq_false_iff_ne.2 (by omega);simp only[go_sem,go_sem_proc,age,hml,e5,e25,e26,e27,hx,hrow,hblk,hri,hrl,hlen,qc,qs,d1,l1,l3,hc1,hc3,n9,n48,b9,b9',b48,b48',a3,a5,a6,a7,a8,b7,b7',b8,b8',hcel,hap,clL,agw,agl,agm];refine rC ?_;intro M2 hM2
   have hM9:M2 228009=some (cL (m 228009),[.dat (.int .i64 c1),.dat (.int .i64 c2),.dat (.int .i64 c3),.dat (.int .i64 c4)]):=by
    rw[hM2];simp only[ll,a1,a2,a9,if_false,if_true]
   have hMK:M2 KK=some (gs c1,opB (cash.getD c1 0) (fun k=>if k=c3 then .ref EK (gg c1 c3+1) 4 0 ((aT l c1 c3).length+1) else cM l gg c1 k) (fun k=>aM l c1 (k:Nat)) 10 false):=by
    rw[hM2];simp only[ll,if_true]
   have hME:M2 EK=some (gg c1 c3+1,ay clL (aT l c1 c3++[((c1:Int),c2,(c3:Int),c4)])):=by
    rw[hM2];simp only[ll,a5,if_false,if_true]
   have hMo:∀ k:Nat,k≠228009→k≠228048→k≠KK→k≠EK→M2 k=m k:=fun k h1 h2 h3 h4=>by
    rw[hM2];simp only[ll,h1,h3,h4,if_false]
   clear hM2;simp only[go_sem,go_sem_proc,age,hM9,w1,a1];refine M8 T M2 KK (gs c1) (cL (m 228009)) (cash.getD c1 0) (fun k=>if k=c3 then .ref EK (gg c1 c3+1) 4 0 ((aT l c1 c3).length+1) else cM l gg c1 k) (fun k=>aM l c1 (k:Nat)) c1 c2 c3 c4 hc3 hub (by omega) (by omega) (.ref 228023 g 1 0 cash.length) (.dat (.sl (cs.map clL))) (.dat (.int .i64 cs.length)) (.dat (.int .i64 t)) _ _ ?_ ?_ ?_ ?_ ?_ ?_ ?_ hM9 hMK (fun _ _=>rfl) ?_
   all_goals first | (intro tm' m' k5 k25 k26 k27 qK qo) | (simp only[aH,ago,if_false,if_true,e5,e25,e26,e27];done)
   have hfin:=tail tm' m' (gg c1 c3+1) 0 k5 k25 k26 k27 qK (by rw[qo EK (by omega)];exact hME) fun k h1 h2 h3 h4=>by rw[qo k h3];exact hMo k h1 h2 h3 h4
   refine qI ?_
   repeat' (intro h<;>simp only[h,go_sem,go_sem_proc,age,k5,k25,k26,k27,w3]<;>try refine qS ?_ ?_)
   exact⟨(t+1,fun i k=>if i=c1∧k=c3 then gg c1 c3+1 else gg i k),by dsimp only;omega,by dsimp only;omega,rfl,hfin.1,hfin.2⟩
 ·have d1:decide ((t:Int)<(cs.length:Int))=false:=decide_eq_false (by omega)
  rw[agK (by omega)] at hat;refine qI ?_
  repeat' (intro h<;>simp only[h,go_sem,go_sem_proc,age,e5,e25,e26,e27,d1]<;>try refine qS ?_ ?_)
  refine hK _ _ gg ?_ hat hfr;simp only[aH,ago,if_false,e5]
theorem Moves.trans {a b c:Mem} (h:Moves a b) (h':Moves b c):Moves a c:=by
 induction h with
 | refl=>exact h'
 | step h1 _ ih=>exact .step h1 (ih h')
theorem zQ {K:St→Prop} {tm:Nat→MV} {mem mem':Mem} (h:Moves mem mem') (hK:K ⟨tm,mem'⟩):dP K ⟨tm,mem⟩ .many:=⟨mem',h,hK⟩
def cF (l:List ClR) (gg:Nat→Nat→Nat) (d i k:Nat):MV:=if 10*i+k<d then clM (aT l i k) else cM l gg i k
structure OpF (cash:List Int) (l:List ClR) (g:Nat) (gs:Nat→Nat) (gg:Nat→Nat→Nat) (d:Nat) (m:Mem):Prop where
 row:m 228023=some (g,fL cash.length fun i => .ptr (228500+i) (gs i) 0)
 blk:∀ i,i<cash.length→m (228500+i)=some (gs i,opB (cash.getD i 0) (cF l gg d i) (fun k=>aM l i (k:Nat)) 10 false)
 cel:∀ i k,i<cash.length→k<10→d≤10*i+k→aT l i k≠[]→m (228600+10*i+k)=some (gg i k,ay clL (aT l i k))
theorem OpF.step {cash:List Int} {l:List ClR} {g:Nat} {gs:Nat→Nat} {gg:Nat→Nat→Nat} {d:Nat} {m:Mem} (h:OpF cash l g gs gg d m) (hn:cash.length≤5) (hd:d<10*cash.length):∃ m',Moves m m'∧OpF cash l g gs gg (d+1) m'∧FrK 228 m m':=by
 obtain⟨i,k,hi,hk,rfl⟩:∃ i k,i<cash.length∧k<10∧d=10*i+k:=⟨d / 10,d % 10,by omega,by omega,by omega⟩
 have hother:∀ j r,j<cash.length→r<10→¬ (j=i∧r=k)→cF l gg (10*i+k+1) j r=cF l gg (10*i+k) j r:=fun j r hj hr hne=>by
  unfold cF
  by_cases h1:10*j+r<10*i+k
  ·rw[if_pos h1,if_pos (by omega)]
  ·rw[if_neg h1,if_neg (by omega)]
 by_cases hc:aT l i k=[]
 ·refine⟨m,.refl m,⟨h.row,fun j hj=>?_,fun j r hj hr hd hne=>h.cel j r hj hr (by omega) hne⟩,FrK.refl _ _⟩
  rw[h.blk j hj]
  congr 2
  refine gT (fun r hr=>?_) fun _ _=>rfl
  by_cases hjr:j=i∧r=k
  ·obtain⟨rfl,rfl⟩:=hjr
   unfold cF;rw[if_neg (by omega),if_pos (by omega)];unfold cM clM;rw[if_pos hc,if_pos hc]
  ·exact (hother j r hj hr hjr).symm
 ·have hb:=h.blk i hi
  have hcl:=h.cel i k hi hk (agL _) hc
  have hcf:cF l gg (10*i+k) i k = .ref (228600+10*i+k) (gg i k) 4 0 (aT l i k).length:=by
   unfold cF;rw[if_neg (by omega)];unfold cM;rw[if_neg hc]
  have hget:=xu (c:=cash.getD i 0) (q:=cF l gg (10*i+k) i) (us:=fun k=>aM l i (k:Nat)) (f:=10) (p:=false) hk;rw[hcf] at hget;have htd:toD 1 m (.ref (228600+10*i+k) (gg i k) 4 0 (aT l i k).length)=some (.sl ((aT l i k).map clL)):=eG (n:=0) kh hcl;refine⟨_,.step (MoveS.mfrz (228500+i) (gs i) _ (1+k) (228600+10*i+k) (gg i k) 4 0 (aT l i k).length _ (.sl ((aT l i k).map clL)) hb hget hcl (by show (228600+10*i+k:Nat)≠228500+i;omega) htd) (.refl _),⟨?_,fun j hj=>?_,fun j r hj hr hd hne=>?_⟩,fun x hx=>?_⟩
  ·rw[aF (by show (228023:Nat)≠228500+i;omega)]
   unfold kill;rw[aF (by show (228023:Nat)≠228600+10*i+k;omega)];exact h.row
  ·by_cases hji:j=i
   ·subst hji
    rw[cf,tn hk]
    congr 2
    refine gT (fun r hr=>?_) fun _ _=>rfl
    by_cases hrk:r=k
    ·subst hrk
     rw[if_pos rfl];unfold cF;rw[if_pos (by omega)];unfold clM;rw[if_neg hc]
    ·rw[if_neg hrk]
     exact (hother j r hj hr (by omega)).symm
   ·rw[aF (by show (228500+j:Nat)≠228500+i;omega)]
    unfold kill;rw[aF (by show (228500+j:Nat)≠228600+10*i+k;omega),h.blk j hj]
    congr 2
    refine gT (fun r hr=>(hother j r hj hr (by omega)).symm) fun _ _=>rfl
  ·rw[aF (by show (228600+10*j+r:Nat)≠228500+i;omega)]
   unfold kill;rw[aF (by show (228600+10*j+r:Nat)≠228600+10*i+k;omega)];exact h.cel j r hj hr (by omega) hne
  ·have hx':x / 1000≠228:=hx
   rw[aF (by show x≠228500+i;omega)];unfold kill;rw[aF (by show x≠228600+10*i+k;omega)]
theorem OpF.all {cash:List Int} {l:List ClR} {g:Nat} {gs:Nat→Nat} {gg:Nat→Nat→Nat} (hn:cash.length≤5):∀ r d m,d+r=10*cash.length→OpF cash l g gs gg d m→∃ m',Moves m m'∧OpF cash l g gs gg (10*cash.length) m'∧FrK 228 m m'
 | 0,d,m,hd,h=>⟨m,.refl m,by rw[←hd];exact h,FrK.refl _ _⟩
 | r+1,d,m,hd,h=>by
  obtain⟨m1,h1,h2,h3⟩:=h.step hn (by omega);obtain⟨m2,k1,k2,k3⟩:=OpF.all hn r (d+1) m1 (by omega) h2;exact⟨m2,h1.trans k1,k2,fun x hx=>(k3 x hx).trans (h3 x hx)⟩
theorem OpAt.toF {cash:List Int} {l:List ClR} {g:Nat} {gs:Nat→Nat} {gg:Nat→Nat→Nat} {m:Mem} (h:OpAt cash l g gs gg m):OpF cash l g gs gg 0 m :=
 ⟨h.row,fun i hi=>by
  rw[h.blk i hi]
  congr 2,fun i k hi hk _ hne=>h.cel i k hi hk hne⟩
def opA (cash:List Int) (cs:List ClR) (g:Nat) (gs:Nat→Nat):DebA:=⟨cash,aE cash.length cs,fL cash.length fun _=>10,bL cash.length fun _=>false,g,fL cash.length gs⟩
theorem zJ {cash:List Int} {cs:List ClR} (h:SmallD cash cs) (i r:Nat):aM (aE cash.length cs) i r=aM cs i r:=by
 have h1:=dA h.right i r;have h2:=dA (nm h).right i r;rw[←(qH h.right).U,←h1] at h2
 exact_mod_cast h2
theorem kr {α:Type} {n i:Nat} (q:Nat→α) (d:α) (h:i<n):(fL n q).getD i d=q i:=by
 rw[agi,cR q h];rfl
theorem OpF.at {cash:List Int} {cs:List ClR} (hs:SmallD cash cs) {g:Nat} {gs:Nat→Nat} {gg:Nat→Nat→Nat} {m:Mem} (h:OpF cash cs g gs gg (10*cash.length) m):(opA cash cs g gs).At m:=by
 refine⟨(xA _ _).symm,bT _ _,xp _ _,bT _ _,?_,fun i hi=>?_⟩
 ·refine h.row.trans ?_
  congr 2
  exact bK fun i hi=>by
   show MV.ptr (228500+i) (gs i) 0=MV.ptr (228500+i) ((fL cash.length gs).getD i 0) 0;rw[kr gs 0 hi]
 ·have hi':i<cash.length:=hi
  refine (h.blk i hi').trans ?_;have e1:(opA cash cs g gs).gs.getD i 0=gs i:=kr gs 0 hi';rw[e1]
  congr 2
  have e2:(fL cash.length fun _=>(10:Int)).getD i 10=10:=kr _ _ hi';have e3:(bL cash.length fun _=>false).getD i false=false:=by rw[agi,yt _ hi'];rfl
  have e4:dD ((opA cash cs g gs).deb i)=iC (cash.getD i 0)::((fL 10 fun k=>aT (aE cash.length cs) i k).map clM++((fL 11 fun k=>aM (aE cash.length cs) i (k:Nat)).map iC++[iC ((fL cash.length fun _=>(10:Int)).getD i 10),bC ((bL cash.length fun _=>false).getD i false)])):=rfl;rw[e4,e2,e3];unfold opB
  have e5:(fL 10 fun k=>aT (aE cash.length cs) i k).map clM=fL 10 (cF cs gg (10*cash.length) i):=by
   unfold fL;rw[List.map_map];refine List.map_congr_left fun k hk=>?_
   have hk':=List.mem_range.1 hk
   show clM (aT (aE cash.length cs) i k)=cF cs gg (10*cash.length) i k;rw[uG cs hi' hk'];unfold cF;rw[if_pos (by omega)]
  have e6:(fL 11 fun k=>aM (aE cash.length cs) i (k:Nat))=fL 11 fun k=>aM cs i (k:Nat):=bK fun k _=>zJ hs i k
  rw[e5,e6]
theorem EX {α:Type} (n:Nat) (q:Nat→α):fL (n+1) q=fL n q++[q n]:=by
 unfold fL;rw[agq,agp];rfl
structure OnQ (x:List Int × List ClR) (mem:Mem):Prop where
 sm:SmallD x.1 x.2
 no:NoK 228 mem
def JS (x:List Int × List ClR) (mem:Mem):MV→Mem→Prop:=fun m mem'=>∃ g gs,m = .ref 228023 g 1 0 x.1.length∧(opA x.1 x.2 g gs).At mem'∧FrK 228 mem mem'
noncomputable def ya:List MV→Mem→Option (MV→Mem→Prop):=QQ (fun (x:List Int × List ClR) args mem=>args=[.dat (.sl (x.1.map aa)),.dat (.sl (x.2.map clL))]∧OnQ x mem) JS
theorem CJ (cash:List Int) (cs:List ClR) (mem:Mem) (h:OnQ (cash,cs) mem):ya [.dat (.sl (cash.map aa)),.dat (.sl (cs.map clL))] mem=some (JS (cash,cs) mem):=by
 refine JA (a:=(cash,cs)) ?_ ⟨rfl,h⟩;rintro⟨a,b⟩ ⟨c,d⟩ args mem ⟨e1,e2⟩ ⟨e3,e4⟩;rw[e1] at e3;simp only[List.cons.injEq,MV.dat.injEq,Data.sl.injEq,and_true] at e3;obtain⟨h1,h2⟩:=e3;rw[af ai _ _ h1,af fZ _ _ h2]
def noM (_:Nat):MV:=.nil
def zI (_:Nat):Int:=0
theorem Mv (T:Tab) (cash:List Int) (cs:List ClR) (mem:Mem) (ha:OnQ (cash,cs) mem) :
  wp T mf_clear_open.body (pH mf_clear_open.res (JS (cash,cs) mem)) ⟨ax [.dat (.sl (cash.map aa)),.dat (.sl (cs.map clL))],mem⟩:=by
 obtain⟨hs,hno⟩:=ha;dsimp only at hs;have hn:=hs.n5;have h23:mem 228023=none:=hno 228023 (by decide);refine ap ?_;simp only[mf_clear_open];simp only[go_sem,go_sem_proc,age,h23,agl]
 refine ae [1,12,13] [] (fun ((i,g,gs):Nat × Nat × (Nat→Nat)) tm m=>i≤cash.length∧tm 14 = .dat (.int .i64 i)∧tm 5 = .ref 228023 g 1 0 i∧m 228023=some (g,fL i fun j => .ptr (228500+j) (gs j) 0)∧(∀ j,j<i→m (228500+j)=some (gs j,opB (cash.getD j 0) noM zI 10 false))∧FrK 228 mem m) (fun (i,_)=>cash.length-i) (0,0,fun _=>0) (by
  refine⟨by omega,rfl,rfl,by simp [aA];rfl,fun j hj=>by omega,(FrK.refl _ _).upd (by decide)⟩) ?_
 intro vs ms hvs hms;simp only[go_sem,go_sem_proc,age] at hvs hms;subst hvs hms;rintro⟨i,g,gs⟩ tm m hk-⟨hi,e14,e5,hrow,hblk,hfr⟩;simp only[go_sem,go_sem_proc,age,List.cons.injEq] at hk;obtain⟨e1,e12,e13⟩:=hk;rcases agf (i<cash.length) with hlt | hge
 ·have d1:decide ((i:Int)<(cash.length:Int))=true:=decide_eq_true (by omega)
  have w3:IntKind.i64.wrap ((i:Int)+1)=((i+1:Nat):Int):=by rw[aj _ (by omega) (by omega)];omega
  obtain⟨y,hy⟩:∃ y,cash[i]?=some y:=⟨_,agh hlt⟩;have hyd:cash.getD i 0=y:=by rw[agi,hy];rfl
  have hrl:(fL i fun j=>MV.ptr (228500+j) (gs j) 0).length=i:=bT _ _;have htk:agt i (fL i fun j=>MV.ptr (228500+j) (gs j) 0)=fL i fun j=>MV.ptr (228500+j) (gs j) 0:=agK (by omega)
  have l1:((i+1)*8≤140737488355328)=True:=eq_true (by omega);have l2:(i+1≤maxLen)=True:=eq_true (by unfold maxLen;omega);have l3:(i≤i)=True:=eq_true (agL _)
  have hap:lg 228023 g 1 i 8 1 [.ptr 228021 (cL (m 228021)) 0] (some (g,fL i fun j=>MV.ptr (228500+j) (gs j) 0))=some (.ref 228023 (g+1) 1 0 (i+1),some (228023,g+1,(fL i fun j=>MV.ptr (228500+j) (gs j) 0)++[.ptr 228021 (cL (m 228021)) 0])):=by
   unfold lg;dsimp only;rw[if_pos ⟨rfl,by rw[bT];omega,by omega,by unfold maxLen;omega,rfl⟩,agw,htk]
  generalize hRW:(fL i fun j=>MV.ptr (228500+j) (gs j) 0)=RW at *;simp only[go_sem,go_sem_proc,age,e1,e5,e12,e13,e14,hrow,hy,hrl,hap,d1,aa,agw,agl,agm]
  have hcx:(RW++[MV.ptr 228021 (cL (m 228021)) 0])[i]?=some (.ptr 228021 (cL (m 228021)) 0):=by
   rw[agD (by omega),hrl];simp
  have a1:(228021=228022)=False:=eq_false (by decide);refine rK (MoveS.mptr 228023 (g+1) _ i 228021 (cL (m 228021)) 0 _ (228500+i) cf hcx ((aF (by decide)).trans ((aF (by decide)).trans cf)) (by decide) (by show (228500+i:Nat)≠228021;omega) (by show (228500+i:Nat)≠228023;omega)) ?_;intro M2 hM2
  have hset:∀ p,(RW++[MV.ptr 228021 (cL (m 228021)) 0]).set i p=RW++[p]:=fun p=>by
   rw[agG _ _ (by omega),hrl,Nat.sub_self];rfl
  rw[hset] at hM2
  obtain⟨gi,hM23,hMi⟩:∃ gi,M2 228023=some (g+1,RW++[.ptr (228500+i) gi 0])∧M2 (228500+i)=some (gi,opB y noM zI 10 false):=by
   apply Exists.intro;apply And.intro
   rotate_left
   ·rw[hM2,aF (by show (228500+i:Nat)≠228023;omega),cf];rfl
   ·rw[hM2,cf]
  have hMo:∀ k:Nat,k≠228021→k≠228022→k≠228023→k≠228500+i→M2 k=m k:=fun k h1 h2 h3 h4=>by
   rw[hM2,aF h3,aF h4,aF h1,aF h3,aF h2,aF h1]
  clear hM2
  have hnx:RW++[MV.ptr (228500+i) gi 0]=fL (i+1) fun j => .ptr (228500+j) (if j=i then gi else gs j) 0:=by
   rw[EX,if_pos rfl,←hRW]
   congr 1
   exact bK fun j hj=>by rw[if_neg (by omega)]
  rw[hnx] at hM23;refine qI ?_
  repeat' (intro h<;>simp only[h,go_sem,go_sem_proc,age,e1,e12,e13,e14,w3]<;>try refine qS ?_ ?_)
  refine⟨(i+1,g+1,fun j=>if j=i then gi else gs j),by dsimp only;omega,by dsimp only;omega,rfl,rfl,hM23,fun j hj=>?_,fun k hk=>?_⟩
  ·by_cases hji:j=i
   ·subst hji
    dsimp only;rw[if_pos rfl,hMi,hyd]
   ·dsimp only
    rw[if_neg hji,hMo (228500+j) (by omega) (by omega) (by omega) (by omega)];exact hblk j (by dsimp only at hj;omega)
  ·rw[hMo k (by omega) (by omega) (by omega) (by omega)]
   exact hfr k hk
 ·have d1:decide ((i:Int)<(cash.length:Int))=false:=decide_eq_false (by omega)
  obtain rfl:i=cash.length:=by omega
  simp only[go_sem,go_sem_proc,age,e1,e5,e12,e13,e14,d1,agl];refine QA T mem cash cs hs g gs (fun _ _=>0) _ _ ?_ ?_ ?_ ?_ ⟨hrow,fun j hj=>?_,fun j k hj hk hne=>absurd rfl hne⟩ hfr ?_
  all_goals first | (intro tm' m' gg k5 hat hfr') | (simp only[aH,ago,if_false,if_true,e1,e5];done) | skip
  ·rw[hblk j hj]
   congr 2
  obtain⟨m2,h1,h2,h3⟩:=OpF.all hn (10*cash.length) 0 m' (by omega) hat.toF;simp only[go_sem,go_sem_proc,age];refine zQ h1 ?_;refine qI ?_
  repeat' (intro h<;>simp only[h,go_sem,go_sem_proc,age,k5]<;>try refine qS ?_ ?_)
  exact⟨_,rfl,g,gs,rfl,h2.at hs,fun k hk=>(h3 k hk).trans (hfr' k hk)⟩
def Lr (l:List ClR) (r:Int):Int:=bh l fun c=>if c.2.2.1<r then c.2.2.2 else 0
def Sr (l:List ClR) (r:Int):Int:=bh l fun c=>if c.2.2.1=r then c.2.2.2 else 0
theorem Ea (l:List ClR) (r:Int):Lr l (r+1)=Lr l r+Sr l r:=by
 unfold Lr Sr;rw[←uO];refine jv fun c _=>?_
 by_cases h1:c.2.2.1<r
 ·rw[if_pos h1,if_pos (by omega),if_neg (by omega)];omega
 ·by_cases h2:c.2.2.1=r
  ·rw[if_pos (by omega),if_neg h1,if_pos h2];omega
  ·rw[if_neg (by omega),if_neg h1,if_neg h2];rfl
noncomputable def c8 (l:List ClR) (x:Rat) (k:Nat):Rat:=pos (x-((Lr l k:Int):Rat))
theorem OwnOK.Sr_nonneg {l:List ClR} (h:OwnOK l) (r:Int):0≤Sr l r∧Sr l r≤536870912:=h.bound fun c=>c.2.2.1=r
theorem OwnOK.Lr_nonneg {l:List ClR} (h:OwnOK l) (r:Int):0≤Lr l r∧Lr l r≤536870912:=h.bound fun c=>c.2.2.1<r
theorem Af (l:List ClR) (x:Rat) (k:Nat):0≤c8 l x k:=iq _
theorem E3 {l:List ClR} (h:OwnOK l) {x:Rat} (hx:0≤x):c8 l x 0=x:=by
 have:Lr l (0:Nat)=0:=by
  unfold Lr
  have:(bh l fun c=>if c.2.2.1<((0:Nat):Int) then c.2.2.2 else 0)=bh l fun _=>0:=jv fun c hc=>by
   have:=(h.c c hc).2.2.2.2.1;rw[if_neg (by omega)]
  rw[this];clear h this
  induction l with
  | nil=>rfl
  | cons c l ih=>simp only[bh,ih];omega
 unfold c8;rw[this,kQ]<;>grind
theorem Bf {l:List ClR} (h:OwnOK l) {x:Rat} {k:Nat} (he:((Sr l k:Int):Rat)≤c8 l x k):c8 l x (k+1)=c8 l x k-((Sr l k:Int):Rat):=by
 have h1:=Ea l k;have h0:=(h.Sr_nonneg k).1;have h0':(0:Rat)≤((Sr l k:Int):Rat):=by exact_mod_cast h0
 unfold c8 at *;rw[show ((k+1:Nat):Int)=(k:Int)+1 by omega,h1,agM]
 by_cases hp:x-((Lr l k:Int):Rat)≤0
 ·have e1:=gL hp
  rw[e1] at he ⊢;rw[gL (by grind)];grind
 ·have e1:=kQ (x:=x-((Lr l k:Int):Rat)) (by grind)
  rw[e1] at he ⊢;rw[kQ (by grind)];grind
theorem Jq {l:List ClR} {x:Rat} {k:Nat} (he:¬ ((Sr l k:Int):Rat)≤c8 l x k):c8 l x (k+1)=0:=by
 have h1:=Ea l k;have h2:=xN (x-((Lr l k:Int):Rat));unfold c8 at *;rw[show ((k+1:Nat):Int)=(k:Int)+1 by omega,h1,agM,gL (by grind)]
section
variable {l:List ClR} (h:OwnOK l) {x:Rat} {k:Nat} {c:ClR} (hc:c∈l) (hk:c.2.2.1=k)
include h hc hk
theorem D7:aM l c.1 c.2.2.1=Lr l k∧SI l c.1 c.2.2.1=Sr l k:=by
 rw[hk];exact⟨(h.less hc k).symm,(h.same hc k).symm⟩
theorem BX (he:((Sr l k:Int):Rat)≤c8 l x k):fP l x c=(c.2.2.2:Rat):=by
 obtain⟨e1,e2⟩:=D7 h hc hk;have hn:∀ c∈l,0≤c.2.2.2:=fun c hc=>(h.c c hc).2.2.2.2.2.2.1
 by_cases hp:x-((Lr l k:Int):Rat)≤0
 ·have h0:c8 l x k=0:=gL hp
  rw[h0] at he;have hS:Sr l k≤0:=by exact_mod_cast he
  have ha:=zq hn hc;rw[e2] at ha;have ha0:=hn c hc;rw[vN hn hc (by rw[e1];exact hp),show c.2.2.2=0 by omega];rfl
 ·refine HF ?_
  rw[e1,e2];unfold c8 at he
  rwa [kQ (by grind)] at he
theorem Ll (he:¬ ((Sr l k:Int):Rat)≤c8 l x k):fP l x c=(c.2.2.2:Rat)*c8 l x k / ((Sr l k:Int):Rat):=by
 obtain⟨e1,e2⟩:=D7 h hc hk;have hn:∀ c∈l,0≤c.2.2.2:=fun c hc=>(h.c c hc).2.2.2.2.2.2.1
 by_cases hp:x-((Lr l k:Int):Rat)≤0
 ·have h0:c8 l x k=0:=gL hp
  rw[vN hn hc (by rw[e1];exact hp),h0,Rat.mul_zero,Rat.div_def,Rat.zero_mul]
 ·have h0:c8 l x k=x-((Lr l k:Int):Rat):=kQ (by grind)
  rw[G7 (by rw[e1];grind) (by rw[e1,e2,←h0];grind),e1,e2,h0]
end
theorem DQ {l:List ClR} {x:Rat} (h:pG l x) (k:Nat):szR 490 (c8 l x k):=by
 have hL:=h.own.Lr_nonneg k;unfold c8 pos
 split
 ·exact (show szR 1 0 from⟨by decide,by decide⟩).mono (by omega)
 ·rw[Rat.sub_eq_add_neg]
  exact (Kc h.sz (nf (ng (z:=Lr l k) (b:=29) (by omega)))).mono (by omega)
noncomputable def rP:List Data→Option PRes:=FF (α:=Int × Int × Int) (fun (x,a,b)=>([.int .i64 x,.int .i64 a,.int .i64 b]:List Data)) (fun (x,a,b)=>some (.same (.bool (decide (a≤x)&&decide (x≤b)))))
theorem vG:∀ a b:Int × Int × Int,(fun (x,a,b)=>([.int .i64 x,.int .i64 a,.int .i64 b]:List Data)) a=(fun (x,a,b)=>([.int .i64 x,.int .i64 a,.int .i64 b]:List Data)) b→a=b:=by
  rintro⟨x1,a1,b1⟩ ⟨x2,a2,b2⟩ h;simp only[List.cons.injEq,Data.int.injEq,Data.agg.injEq,Data.sl.injEq,Data.bool.injEq,Data.str.injEq,Data.ptr.injEq,Data.tup.injEq,Prod.mk.injEq,true_and,and_true] at h ⊢
  first | exact h | simpa [Prod.ext_iff,and_assoc] using h | grind
@[go_sem] theorem Mn (x:Int) (a:Int) (b:Int):rP [.int .i64 x,.int .i64 a,.int .i64 b]=some (.same (.bool (decide (a≤x)&&decide (x≤b)))):=aV vG (x,a,b)
theorem Gz (T:Tab)  (x:Int) (a:Int) (b:Int) :
  wp T mf_rank_within.body (bG mf_rank_within.res (.same (.bool (decide (a≤x)&&decide (x≤b))))) ⟨ax [.dat (.int .i64 x),.dat (.int .i64 a),.dat (.int .i64 b)],emp⟩:=by
 refine ap ?_;simp only[mf_rank_within];rcases c1:decide (a≤x)
 ·have c2:decide (x≥a)=false:=c1
  refine qI ?_
  repeat' (intro h<;>simp only[h,go_sem,go_sem_proc,age,c1,c2,agr]<;>try refine qS ?_ ?_)
 ·have c2:decide (x≥a)=true:=c1
  refine qI ?_
  repeat' (intro h<;>simp only[h,go_sem,go_sem_proc,age,c1,c2,agx]<;>try refine qS ?_ ?_)
noncomputable def uE:List Data→Option PRes:=FF (α:=List ClR) (fun (l:List ClR)=>([.sl (l.map clL)]:List Data)) (fun (l:List ClR)=>aG (OwnOK l) (.same (.bool true)))
theorem xH:∀ a b:List ClR,(fun (l:List ClR)=>([.sl (l.map clL)]:List Data)) a=(fun (l:List ClR)=>([.sl (l.map clL)]:List Data)) b→a=b:=by
  intro l1 l2 h;simp only[List.cons.injEq,Data.sl.injEq,and_true] at h;exact af fZ _ _ h
@[go_sem] theorem Ni (l:List ClR) (hc:OwnOK l):uE [.sl (l.map clL)]=some (.same (.bool true)):=(aV xH l).trans (an hc _)
theorem Ji (T:Tab) (mp:T fj=mkE rP) (l:List ClR) (hc:OwnOK l) :
  wp T mf_rank_right.body (bG mf_rank_right.res (.same (.bool true))) ⟨ax [.dat (.sl (l.map clL))],emp⟩:=by
 refine ap ?_;simp only[mf_rank_right];have hl:=hc.len;simp only[go_sem,go_sem_proc,age,mp,agl];refine ae [0,5,6] [] (fun (i:Nat) tm mem=>i≤l.length∧tm 7 = .dat (.int .i64 i)) (fun i=>l.length-i) 0 (by refine⟨by omega,rfl⟩) ?_;intro vs ms hvs hms;simp only[go_sem,go_sem_proc,age,mp,agl] at hvs hms;subst hvs hms;rintro i tm mem hk hm ⟨hi,h7⟩;simp only[go_sem,go_sem_proc,age,mp,List.cons.injEq] at hk hm;obtain⟨h0,h5,h6⟩:=hk;rcases agf (i<l.length) with hlt | hge
 ·have d1:decide ((i:Int)<(l.length:Int))=true:=decide_eq_true (by omega)
  have w3:IntKind.i64.wrap ((i:Int)+1)=((i+1:Nat):Int):=by rw[aj _ (by omega) (by omega)];omega
  obtain⟨⟨c1,c2,c3,c4⟩,hx⟩:∃ c,l[i]?=some c:=⟨_,agh hlt⟩;obtain⟨⟨a1,a2,a3,a4⟩,hx0⟩:∃ c,l[0]?=some c:=⟨_,agh (by omega)⟩;have hcc:=hc.c _ (agJ hx);have hone:=hc.one _ (agJ hx) _ (agJ hx0);dsimp only at hcc hone;subst hone;have q1:(decide (0≤c1)&&decide (c1≤59))=true:=by simp only[agN,decide_eq_true_eq];omega
  have q2:(decide (-1≤c2)&&decide (c2≤59))=true:=by simp only[agN,decide_eq_true_eq];omega
  have q3:(decide (0≤c3)&&decide (c3≤9))=true:=by simp only[agN,decide_eq_true_eq];omega
  have q4:(decide (0≤c4)&&decide (c4≤1000000000000000))=true:=by simp only[agN,decide_eq_true_eq];omega
  refine qI ?_
  repeat' (intro h<;>simp only[h,go_sem,go_sem_proc,age,mp,h0,h5,h6,h7,hx,hx0,d1,w3,q1,q2,q3,q4,clL,bne,beq_self_eq_true,agn,agl,agm]<;>try refine qS ?_ ?_)
  exact⟨i+1,by omega,by omega,rfl⟩
 ·have d1:decide ((i:Int)<(l.length:Int))=false:=decide_eq_false (by omega)
  have d2:decide ((l.length:Int)≤2000)=true:=decide_eq_true (by omega);refine qI ?_
  repeat' (intro h<;>simp only[h,go_sem,go_sem_proc,age,mp,h0,h5,h6,h7,d1,d2,agl]<;>try refine qS ?_ ?_)
theorem QU (T:Tab) {K:bH→St→Prop} {kk:List Todo} (l:List ClR) (hl:OwnOK l) (k:Nat) (v1 v6 v7:MV) (v37:MV) (x2 x7 x35:Option (Nat × List MV)) (tm:Nat→MV) (m:Mem)
  (e1:tm 1=v1) (e6:tm 6=v6) (e7:tm 7=v7) (e8:tm 8 = .dat (.int .i64 k)) (e9:tm 9 = .dat (.int .i64 0)) (e37:tm 37=v37) (e40:tm 40 = .dat (.sl (l.map clL))) (e41:tm 41 = .dat (.int .i64 l.length)) (e42:tm 42 = .dat (.int .i64 0)) (m2:m 249002=x2) (m7:m 249007=x7) (m35:m 249035=x35)
  (hK:∀ tm' m',tm' 1=v1→tm' 6=v6→tm' 7=v7→tm' 8 = .dat (.int .i64 k)→tm' 9 = .dat (.int .i64 (Sr l k))→tm' 37=v37→m' 249002=x2→m' 249007=x7→m' 249035=x35→kont T K kk (.exit 2) ⟨tm',m'⟩) :
  wp T (mf_rank_Split.body.sub [1,1,1,1,0,1,0,0,1,1,0,0,1,1,0,1,0]) (kont T K kk) ⟨tm,m⟩:=by
 simp only[mf_rank_Split,MCode.sub];have hb:=fun t=>hl.cs.sum (fun c=>c.2.2.1=(k:Int)) t
 have hlen:=hl.len;refine ae [1,6,7,8,37,40,41] [249002,249007,249035] (fun (t:Nat) tm m=>t≤l.length∧tm 42 = .dat (.int .i64 t)∧tm 9 = .dat (.int .i64 (Sr (l.take t) k))) (fun t=>l.length-t) 0 (by refine⟨by omega,e42,e9⟩) ?_
 intro vs ms hvs hms;simp only[go_sem,go_sem_proc,age,e1,e6,e7,e8,e37,e40,e41,m2,m7,m35] at hvs hms;subst hvs hms;clear e1 e6 e7 e8 e9 e37 e40 e41 e42 m2 m7 m35 tm m;rintro t tm m hk hm ⟨ht,e42,e9⟩;simp only[go_sem,go_sem_proc,age,List.cons.injEq] at hk hm;obtain⟨e1,e6,e7,e8,e37,e40,e41⟩:=hk;obtain⟨m2,m7,m35⟩:=hm;rcases agf (t<l.length) with hlt | hge
 ·have d1:decide ((t:Int)<(l.length:Int))=true:=decide_eq_true (by omega)
  have w3:IntKind.i64.wrap ((t:Int)+1)=((t+1:Nat):Int):=by rw[aj _ (by omega) (by omega)];omega
  obtain⟨⟨c1,c2,c3,c4⟩,hx⟩:∃ c,l[t]?=some c:=⟨_,agh hlt⟩
  have hst:Sr (l.take (t+1)) k=Sr (l.take t) k+if c3=(k:Int) then c4 else 0:=by
   unfold Sr;rw[Fm hx]
  have h1:=hb t;have h2:=hb (t+1);have e1':Sr (l.take t) k=bh (l.take t) fun c=>if c.2.2.1=(k:Int) then c.2.2.2 else 0:=rfl
  have e2':Sr (l.take (t+1)) k=bh (l.take (t+1)) fun c=>if c.2.2.1=(k:Int) then c.2.2.2 else 0:=rfl
  rw[←e1'] at h1;rw[←e2'] at h2;rcases q:(c3==(k:Int))
  ·rw[if_neg (by have:=ne_of_beq_false q;omega),agH] at hst
   refine qI ?_
   repeat' (intro h<;>simp only[h,go_sem,go_sem_proc,age,e1,e6,e7,e8,e9,e37,e40,e41,e42,m2,m7,m35,hx,d1,w3,q,clL,agl,agm]<;>try refine qS ?_ ?_)
   exact⟨t+1,by omega,by omega,rfl,by rw[hst]⟩
  ·rw[if_pos (by have:=eq_of_beq q;omega)] at hst
   have wA:IntKind.i64.wrap (Sr (l.take t) k+c4)=Sr (l.take (t+1)) k:=by rw[hst,aj _ (by omega) (by omega)]
   refine qI ?_
   repeat' (intro h<;>simp only[h,go_sem,go_sem_proc,age,e1,e6,e7,e8,e9,e37,e40,e41,e42,m2,m7,m35,hx,d1,w3,q,wA,clL,agl,agm]<;>try refine qS ?_ ?_)
   exact⟨t+1,by omega,by omega,rfl,rfl⟩
 ·have d1:decide ((t:Int)<(l.length:Int))=false:=decide_eq_false (by omega)
  rw[agK (by omega)] at e9;refine qI ?_
  repeat' (intro h<;>simp only[h,go_sem,go_sem_proc,age,e1,e6,e7,e8,e9,e37,e40,e41,e42,d1]<;>try refine qS ?_ ?_)
  refine hK _ _ ?_ ?_ ?_ ?_ ?_ ?_ m2 m7 m35<;>simp only[aH,ago,if_false,e1,e6,e7,e8,e9,e37]
noncomputable def fI (l:List ClR) (x:Rat) (k t j:Nat):Option aU:=if (l.getD j zC).2.2.1<(k:Int)∨((l.getD j zC).2.2.1=(k:Int)∧j<t) then some (ph l x j) else none
theorem Db (l:List ClR) (h:OwnOK l) (x:Rat):(fL l.length fun j=>fI l x 0 0 j)=fL l.length fun _=>none:=bK fun j hj=>by
 have:=(h.c _ (agJ (agh hj))).2.2.2.2.1;have e:l.getD j zC=l[j]:=by rw[agi,agh hj];rfl
 unfold fI;rw[e,if_neg (by omega)]
theorem B6 (l:List ClR) (x:Rat) (k:Nat):(fL l.length fun j=>fI l x k l.length j)=fL l.length fun j=>fI l x (k+1) 0 j:=bK fun j hj=>by
 unfold fI
 by_cases h:(l.getD j zC).2.2.1<((k+1:Nat):Int)
 ·rw[if_pos (by omega),if_pos (.inl h)]
 ·rw[if_neg (by omega),if_neg (by omega)]
theorem H8 (l:List ClR) (h:OwnOK l) (x:Rat):(fL l.length fun j=>fI l x 10 0 j)=fL l.length fun j=>some (ph l x j):=bK fun j hj=>by
 have:=(h.c _ (agJ (agh hj))).2.2.2.2.2.1;have e:l.getD j zC=l[j]:=by rw[agi,agh hj];rfl
 unfold fI;rw[e,if_pos (.inl (by omega))]
theorem ov {n:Int} (h:ca n):oa [.int .i64 n]=some (.same (.agg (ad (ak (n:Rat))))):=AF n h
theorem Qs (T:Tab) (ei:T de=mkE oa) (bM:T cY=mkE kI) (fV:T gB=mkE o6) {K:bH→St→Prop} {kk:List Todo} (l:List ClR) (x:Rat) (hsp:pG l x) (k:Nat) (G g7:Nat) (v1 v37:MV) (x2:Option (Nat × List MV)) (tm:Nat→MV) (m:Mem)
  (e1:tm 1=v1) (e6:tm 6 = .ref 249035 G 4 0 l.length) (e7:tm 7 = .ptr 249007 g7 0) (e8:tm 8 = .dat (.int .i64 k)) (e9:tm 9 = .dat (.int .i64 (Sr l k))) (e12:tm 12 = .dat (.bool (decide (((Sr l k:Int):Rat)≤c8 l x k)))) (e37:tm 37=v37) (e60:tm 60 = .dat (.sl (l.map clL))) (e61:tm 61 = .dat (.int .i64 l.length)) (e62:tm 62 = .dat (.int .i64 0)) (m2:m 249002=x2) (m7:m 249007=some (g7,(ad (ak (c8 l x k))).map .dat)) (m35:m 249035=some (G,ko oP (fL l.length fun j=>fI l x k 0 j)))
  (hK:∀ tm' m',tm' 1=v1→tm' 6 = .ref 249035 G 4 0 l.length→tm' 7 = .ptr 249007 g7 0→tm' 9 = .dat (.int .i64 (Sr l k))→tm' 12 = .dat (.bool (decide (((Sr l k:Int):Rat)≤c8 l x k)))→tm' 37=v37→m' 249002=x2→m' 249007=some (g7,(ad (ak (c8 l x k))).map .dat)→m' 249035=some (G,ko oP (fL l.length fun j=>fI l x (k+1) 0 j))→kont T K kk (.exit 4) ⟨tm',m'⟩) :
  wp T (mf_rank_Split.body.sub [1,1,1,1,0,1,0,0,1,1,0,0,1,1,1,1,0,1,0]) (kont T K kk) ⟨tm,m⟩:=by
 simp only[mf_rank_Split,MCode.sub];have how:=hsp.own;have hlen:=how.len;refine ae [1,6,7,8,9,12,37,60,61] [249002,249007] (fun (t:Nat) tm m=>t≤l.length∧tm 62 = .dat (.int .i64 t)∧m 249035=some (G,ko oP (fL l.length fun j=>fI l x k t j))) (fun t=>l.length-t) 0 (by refine⟨by omega,e62,m35⟩) ?_;intro vs ms hvs hms;simp only[go_sem,go_sem_proc,age,e1,e6,e7,e8,e9,e12,e37,e60,e61,m2,m7] at hvs hms;subst hvs hms;clear e1 e6 e7 e8 e9 e12 e37 e60 e61 e62 m2 m7 m35 tm m;rintro t tm m hk hm ⟨ht,e62,m35⟩;simp only[go_sem,go_sem_proc,age,List.cons.injEq] at hk hm;obtain⟨e1,e6,e7,e8,e9,e12,e37,e60,e61⟩:=hk;obtain⟨m2,m7⟩:=hm;rcases agf (t<l.length) with hlt | hge
 ·have d1:decide ((t:Int)<(l.length:Int))=true:=decide_eq_true (by omega)
  have w3:IntKind.i64.wrap ((t:Int)+1)=((t+1:Nat):Int):=by rw[aj _ (by omega) (by omega)];omega
  obtain⟨⟨c1,c2,c3,c4⟩,hx⟩:∃ c,l[t]?=some c:=⟨_,agh hlt⟩;have hcm:=agJ hx;have hc':=how.c _ hcm;dsimp only at hc';have hgd:l.getD t zC=(c1,c2,c3,c4):=by rw[agi,hx];rfl
  have hlen4:=Cd (q:=fun j=>fI l x k t j) hlt;rcases q:(c3==(k:Int))
  ·have hne:c3≠(k:Int):=ne_of_beq_false q
   have hnx:(fL l.length fun j=>fI l x k (t+1) j)=fL l.length fun j=>fI l x k t j:=bK fun j _=>by
    unfold fI
    by_cases hj:j=t
    ·subst hj
     rw[hgd];dsimp only
     by_cases h1:c3<(k:Int)
     ·rw[if_pos (.inl h1),if_pos (.inl h1)]
     ·rw[if_neg (by omega),if_neg (by omega)]
    ·by_cases h1:(l.getD j zC).2.2.1<(k:Int)∨((l.getD j zC).2.2.1=(k:Int)∧j<t)
     ·rw[if_pos h1,if_pos (by omega)]
     ·rw[if_neg h1,if_neg (by omega)]
   refine qI ?_
   repeat' (intro h<;>simp only[h,go_sem,go_sem_proc,age,e1,e6,e7,e8,e9,e12,e37,e60,e61,e62,m2,m7,hx,d1,w3,q,clL,bne,agy,agl,agm]<;>try refine qS ?_ ?_)
   exact⟨t+1,by omega,by omega,rfl,by rw[hnx];exact m35⟩
  ·have hke:c3=(k:Int):=eq_of_beq q
   have hset:=fun a b c d=>Dx (q:=fun j=>fI l x k t j) hlt a b c d
   have hnext:∀ F:aU,F=ph l x t→(fL l.length fun j=>if j=t then some F else fI l x k t j)=fL l.length fun j=>fI l x k (t+1) j:=by
    intro F hF;refine bK fun j _=>?_
    by_cases hj:j=t
    ·subst hj
     rw[if_pos rfl];unfold fI;rw[hgd,if_pos (.inr ⟨hke,by omega⟩),hF]
    ·rw[if_neg hj]
     unfold fI
     by_cases h1:(l.getD j zC).2.2.1<(k:Int)∨((l.getD j zC).2.2.1=(k:Int)∧j<t)
     ·rw[if_pos h1,if_pos (by omega)]
     ·rw[if_neg h1,if_neg (by omega)]
   have hsq:ph l x t=ak (fP l x (c1,c2,c3,c4)):=by unfold ph;rw[hgd]
   have iA:ca c4:=gw (by omega) (by omega);have fA:=ov iA;rcases k2:decide (((Sr l k:Int):Rat)≤c8 l x k)
   ·have k2':=of_decide_eq_false k2
    have bS:=how.Sr_nonneg k;have iS:ca (Sr l k):=gw (by omega) (by omega);have fS:=ov iS;have zr:=DQ hsp k;have zA:szR 29 ((c4:Int):Rat):=ng (by omega);have zS:szR 29 ((Sr l k:Int):Rat):=ng (by omega);have hS0:((Sr l k:Int):Rat)≠0:=by have:=Af l x k;grind
    have f1:=yk (ez iA) (dU zr (by omega)) (qj zA zr (by omega));have f2:=LL (dU (xO zA zr) (by omega)) (ez iS) hS0 (Ad (xO zA zr) zS (by omega));have hpay:=Ll how hcm hke k2';dsimp only at hpay;have hwr:=fun a b c d=>Dx (q:=fun j=>if j=t then some ((a,b),(c,d)) else fI l x k t j) hlt
    have hlen5:=fun a b c d=>Cd (q:=fun j=>if j=t then some ((a,b),(c,d)) else fI l x k t j) hlt
    have hn:=hnext (ak (((c4:Int):Rat)*c8 l x k / ((Sr l k:Int):Rat))) (by rw[hsq,hpay])
    have htwo:∀ F F':aU,(fL l.length fun j=>if j=t then some F else if j=t then some F' else fI l x k t j)=fL l.length fun j=>if j=t then some F else fI l x k t j:=fun F F'=>bK fun j _=>by
     by_cases hj:j=t
     ·rw[if_pos hj,if_pos hj]
     ·rw[if_neg hj,if_neg hj,if_neg hj]
    clear zr zA zS;generalize ak (((c4:Int):Rat)*c8 l x k / ((Sr l k:Int):Rat))=G1 at *;generalize ak (((c4:Int):Rat)*c8 l x k)=G2 at *;generalize ak ((Sr l k:Int):Rat)=G3 at *;generalize hG4:ak (c8 l x k)=G4 at *;generalize ak ((c4:Int):Rat)=G5 at *;obtain⟨⟨g1,g2⟩,⟨g3,g4⟩⟩:=G1;obtain⟨⟨h1,h2⟩,⟨h3,h4⟩⟩:=G2;obtain⟨⟨i1,i2⟩,⟨i3,i4⟩⟩:=G3;obtain⟨⟨j1,j2⟩,⟨j3,j4⟩⟩:=G4;obtain⟨⟨n1,n2⟩,⟨n3,n4⟩⟩:=G5;simp only[ad,agj,agk] at fA fS f1 f2 m7;have hst:=hset n1 n2 n3 n4;have hst2:=hwr n1 n2 n3 n4 g1 g2 g3 g4;have hl5:=hlen5 n1 n2 n3 n4;rw[htwo,hn] at hst2;refine qI ?_
    repeat' (intro h<;>simp only[h,go_sem,go_sem_proc,age,ei,bM,fV,e1,e6,e7,e8,e9,e12,e37,e60,e61,e62,m2,m7,m35,hx,d1,w3,hlt,q,k2,fA,fS,f1,f2,hlen4,hl5,hst,hst2,clL,agl,agm,bne,beq_self_eq_true,agn,agy]<;>try refine qS ?_ ?_)
    exact⟨t+1,by omega,rfl,by omega,rfl,rfl⟩
   ·have hpay:=BX how hcm hke (of_decide_eq_true k2)
    dsimp only at hpay;have hn:=hnext (ak ((c4:Int):Rat)) (by rw[hsq,hpay]);generalize ak ((c4:Int):Rat)=G5 at *;obtain⟨⟨n1,n2⟩,⟨n3,n4⟩⟩:=G5;simp only[ad] at fA;have hst:=hset n1 n2 n3 n4;rw[hn] at hst;refine qI ?_
    repeat' (intro h<;>simp only[h,go_sem,go_sem_proc,age,ei,e1,e6,e7,e8,e9,e12,e37,e60,e61,e62,m2,m7,m35,hx,d1,w3,hlt,q,k2,fA,hlen4,hst,clL,agl,agm,bne,beq_self_eq_true,agn,agy]<;>try refine qS ?_ ?_)
    exact⟨t+1,by omega,by omega,rfl,rfl⟩
 ·have d1:decide ((t:Int)<(l.length:Int))=false:=decide_eq_false (by omega)
  obtain rfl:t=l.length:=by omega
  rw[B6] at m35;refine qI ?_
  repeat' (intro h<;>simp only[h,go_sem,go_sem_proc,age,e1,e6,e7,e8,e9,e12,e37,e60,e61,e62,d1]<;>try refine qS ?_ ?_)
  refine hK _ _ ?_ ?_ ?_ ?_ ?_ ?_ m2 m7 m35<;>simp only[aH,ago,if_false,e1,e6,e7,e9,e12,e37]
noncomputable def uP:List Data→Option PRes:=FF (α:=Rat × (List ClR)) (fun (x,l)=>([.agg (ad (ak x)),.sl (l.map clL)]:List Data)) (fun (x,l)=>aG (pG l x) (.same (.tup [.sl ((l.map fun c=>ak (fP l x c)).map ad),.int .i64 0])))
theorem yN:∀ a b:Rat × (List ClR),(fun (x,l)=>([.agg (ad (ak x)),.sl (l.map clL)]:List Data)) a=(fun (x,l)=>([.agg (ad (ak x)),.sl (l.map clL)]:List Data)) b→a=b:=by
  rintro⟨x1,l1⟩ ⟨x2,l2⟩ h;simp only[List.cons.injEq,Data.sl.injEq,Data.agg.injEq,and_true] at h;exact Prod.ext (uR (eX _ _ h.1)) (af fZ _ _ h.2)
@[go_sem] theorem AA (x:Rat) (l:List ClR) (hc:pG l x):uP [.agg (ad (ak x)),.sl (l.map clL)]=some (.same (.tup [.sl ((l.map fun c=>ak (fP l x c)).map ad),.int .i64 0])):=(aV yN (x,l)).trans (an hc _)
theorem IV (T:Tab) (aZ:T bb=mkE ii) (aw:T bD=mkE d7) (ei:T de=mkE oa) (gG:T lU=mkE uE) (bM:T cY=mkE kI) (fV:T gB=mkE o6) (cw:T dm=mkE lT) (x:Rat) (l:List ClR) (hc:pG l x) :
  wp T mf_rank_Split.body (bG mf_rank_Split.res (.same (.tup [.sl ((l.map fun c=>ak (fP l x c)).map ad),.int .i64 0]))) ⟨ax [.dat (.agg (ad (ak x))),.dat (.sl (l.map clL))],emp⟩:=by
 refine ap ?_;simp only[mf_rank_Split];have hcc:=hc;obtain⟨how,hx0,hxs⟩:=hc;have hlim:=dU hxs (by omega);have hlen:=how.len;have hrt:=oB hlim;have hcx:=jT hlim (ez qZ);have hcd:decide (mM x ((0:Int):Rat)<0)=false:=by rw[BK];exact decide_eq_false (by have:((0:Int):Rat)=0:=rfl;grind)
 have ho:=eF hlim;have hsp:=Fx l x;have f0:=ov qZ;have hr0:=E3 how hx0;have hps:=Db l how x;have hz:=xa l.length;rw[←hps] at hz;have hmk:(64*l.length≤140737488355328)=True:=eq_true (by omega);have hmk2:(l.length≤maxLen)=True:=eq_true (by unfold maxLen;omega);generalize hF:ak x=F at *;generalize hZ:ak ((0:Int):Rat)=Z at *;obtain⟨⟨a1,a2⟩,⟨a3,a4⟩⟩:=F;obtain⟨⟨z1,z2⟩,⟨z3,z4⟩⟩:=Z;simp only[ad] at f0 hcx;simp only[go_sem,go_sem_proc,age,aZ,aw,ei,gG,bM,fV,cw,ad,hrt,ho.1,ho.2,f0,hcx,hcd,how,hmk,hmk2,hz,agl,agn,agy];refine ae [1,6,7] [249002] (fun (k:Nat) tm m=>k≤10∧tm 37 = .dat (.int .i64 k)∧m 249007=some (0,(ad (ak (c8 l x k))).map .dat)∧m 249035=some (0,ko oP (fL l.length fun j=>fI l x k 0 j))) (fun k=>10-k) 0 (by refine⟨by omega,rfl,by rw[hr0,hF];rfl,rfl⟩) ?_
 intro vs ms hvs hms;simp only[go_sem,go_sem_proc,age,aZ,aw,ei,gG,bM,fV,cw,ad,agl] at hvs hms;subst hvs hms;rintro k tm m hk hm ⟨hk10,e37,m7,m35⟩;simp only[go_sem,go_sem_proc,age,aZ,aw,ei,gG,bM,fV,cw,List.cons.injEq] at hk hm;obtain⟨e1,e6,e7⟩:=hk;rcases agf (k<10) with hlt | hge
 ·have d1:decide ((k:Int)<10)=true:=decide_eq_true (by omega)
  have w3:IntKind.i64.wrap ((k:Int)+1)=((k+1:Nat):Int):=by rw[aj _ (by omega) (by omega)];omega
  simp only[go_sem,go_sem_proc,age,aZ,aw,ei,gG,bM,fV,cw,e1,e6,e7,e37,hm,d1,agl];refine QU T l how k (.dat (.sl (l.map clL))) (.ref 249035 0 4 0 l.length) (.ptr 249007 0 0) (.dat (.int .i64 k)) _ (some (0,(ad (ak (c8 l x k))).map .dat)) (some (0,ko oP (fL l.length fun j=>fI l x k 0 j))) _ _ ?_ ?_ ?_ ?_ ?_ ?_ ?_ ?_ ?_ hm m7 m35 ?_
  all_goals first | (intro tm' m' k1 k6 k7 k8 k9 k37 q2 q7 q35) | (simp only[aH,ago,if_false,if_true,e1,e6,e7,e37];done)
  have bS:=how.Sr_nonneg k;have iS:ca (Sr l k):=gw (by omega) (by omega);have fS:=ov iS;have zr:=DQ hcc k;have lr:=dU zr (by omega);have zS:szR 29 ((Sr l k:Int):Rat):=ng (by omega);have hcp:=jT lr (ez iS);have hge':decide (mM (c8 l x k) ((Sr l k:Int):Rat)≥0)=decide (((Sr l k:Int):Rat)≤c8 l x k):=sb;have hsub:=sG lr (ez iS) (jJ zr (nf zS) (by omega));have hL2:=fun (K:bH→St→Prop) (kk:List Todo) G g7 v1 v37 x2 tm m=>Qs T ei bM fV (K:=K) (kk:=kk) l x hcc k G g7 v1 v37 x2 tm m
  have hen:((Sr l k:Int):Rat)≤c8 l x k→ak (c8 l x (k+1))=ak (c8 l x k-((Sr l k:Int):Rat)):=fun h=>by rw[Bf how h]
  have hno:¬ ((Sr l k:Int):Rat)≤c8 l x k→ak (c8 l x (k+1))=((z1,z2),(z3,z4)):=fun h=>by rw[Jq h,←hZ];rfl
  generalize ak (c8 l x k-((Sr l k:Int):Rat))=G1 at *;generalize hG2:ak (c8 l x k)=G2 at *;generalize ak ((Sr l k:Int):Rat)=G3 at *;generalize hG4:ak (c8 l x (k+1))=G4 at *;obtain⟨⟨g1,g2⟩,⟨g3,g4⟩⟩:=G1;obtain⟨⟨h1,h2⟩,⟨h3,h4⟩⟩:=G2;obtain⟨⟨i1,i2⟩,⟨i3,i4⟩⟩:=G3;simp only[ad,agj,agk] at fS hcp hsub q7;simp only[go_sem,go_sem_proc,age,aZ,aw,ei,gG,bM,fV,cw,k1,k6,k7,k8,k9,k37,q2,q7,q35,fS,hcp,hge',agl];refine hL2 _ _ 0 0 (.dat (.sl (l.map clL))) (.dat (.int .i64 k)) _ _ _ ?_ ?_ ?_ ?_ ?_ ?_ ?_ ?_ ?_ ?_ q2 ?_ q35 ?_
  all_goals first | (intro tm2 m2 j1 j6 j7 j9 j12 j37 r2 r7 r35) | (simp only[aH,ago,if_false,if_true,k1,k6,k7,k8,k9,k37];done) | (rw[q7];rfl)
  simp only[ad,agj,agk] at r7;clear hL2;rcases q:decide (((Sr l k:Int):Rat)≤c8 l x k)
  ·have he:=hno (of_decide_eq_false q)
   rw[q] at j12;simp only[go_sem,go_sem_proc,age,aZ,aw,ei,gG,bM,fV,cw,j1,j6,j7,j9,j12,j37,r2,r7,r35,f0,w3,agy,agn]
   repeat' (first|refine qS ?_ ?_|fail)<;>intro h<;>simp only[h,go_sem,go_sem_proc,age,aZ,aw,ei,gG,bM,fV,cw,j1,j6,j7,j9,j12,j37,r2,r7,r35,f0,w3,agy,agn]
   exact⟨k+1,by omega,by omega,rfl,by rw[hG4,he];rfl,rfl⟩
  ·have he:=hen (of_decide_eq_true q)
   rw[q] at j12;simp only[go_sem,go_sem_proc,age,aZ,aw,ei,gG,bM,fV,cw,j1,j6,j7,j9,j12,j37,r2,r7,r35,fS,hsub,w3,bne,beq_self_eq_true,agy,agn]
   repeat' (first|refine qS ?_ ?_|fail)<;>intro h<;>simp only[h,go_sem,go_sem_proc,age,aZ,aw,ei,gG,bM,fV,cw,j1,j6,j7,j9,j12,j37,r2,r7,r35,fS,hsub,w3,bne,beq_self_eq_true,agy,agn]
   exact⟨k+1,by omega,by omega,rfl,by rw[hG4,he];rfl,rfl⟩
 ·have d1:decide ((k:Int)<10)=false:=decide_eq_false (by omega)
  obtain rfl:k=10:=by omega
  rw[H8 l how x,hsp,zZ] at m35;have hfz:=fun (K:St→Prop) (st:St)=>bO (K:=K) (st:=st) cH 6 249035 0 (l.map fun c=>ak (fP l x c))
  rw[agl] at hfz;simp only[go_sem,go_sem_proc,age,aZ,aw,ei,gG,bM,fV,cw,e1,e6,e7,e37,hm,d1,m35,hfz,agl]
  repeat' (first|refine qS ?_ ?_|fail)<;>intro h<;>simp only[h,go_sem,go_sem_proc,age,aZ,aw,ei,gG,bM,fV,cw,e1,e6,e7,e37,hm,d1,m35,hfz,agl]
end Go.Mini
