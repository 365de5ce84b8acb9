/- A part of the proof. -/
import Derived.Test.YtdbkjjoedjfmpaaM12
import Derived.Test.YtdbkjjoedjfmpaaM11
set_option linter.unusedSimpArgs false
set_option linter.unusedVariables false
open List renaming getD_eq_getElem?_getD → af1, take → af6, drop → af7, length_map → agd, getElem?_map → age, getElem?_cons_succ → agj, getElem?_append_left → agk, getElem?_append_right → agl, set_cons_succ → agm, set_append_left → agn, set_append_right → ago, filter_append → agq, filter_cons_of_pos → agr, filter_nil → ags, filter_cons_of_neg → agt, append_nil → agu, length_append → agv, take_zero → agw, getElem?_eq_getElem → agx, mem_of_getElem? → agy, take_add_one → agz, length_take → agA, length_filter_le → agC, take_of_length_le → agD, map_congr_left → agF, range_succ → agG, map_append → agH, map_cons → agL, map_nil → agM, range → agN, length_singleton → agO
open Bool renaming false_and → af2, or_false → af3, false_eq_true → af4, and_false → af8, true_and → aga, not_false → agb, not_true → agc, or_true → agf, and_eq_true → agK
open Decidable renaming em → af5
open Nat renaming mul_one → af9, reduceEqDiff → agh, add_comm → agi, le_trans → agB, le_refl → agE, sub_self → agI
open Int renaming add_zero → agp
open Rat renaming intCast_add → agJ
namespace Go.Mini
open Go
set_option maxRecDepth 10000
set_option maxHeartbeats 4000000
def DebA.wP (a:DebA) (p:Nat→Bool):DebA:={ a with P:=bL a.cash.length p }
theorem DebA.wP_deb (a:DebA) (p:Nat→Bool) {i:Nat} (hi:i<a.cash.length):(a.wP p).deb i=(a.deb i).sp (p i):=by
 have:(bL a.cash.length p).getD i false=p i:=by rw[af1,yW _ hi];rfl
 unfold DebA.deb DebA.wP DebR.sp;dsimp only;rw[this]
theorem DebA.At.setp {a:DebA} {m:Mem} {p:Nat→Bool} (h:(a.wP p).At m) {i:Nat} (hi:i<a.cash.length) (b:Bool):(a.wP fun j=>if j=i then b else p j).At (aB m (228500+i) (a.gs.getD i 0) (dH ((a.deb i).sp b))):=by
 refine⟨h.can,h.fl,xC _ _,h.gl,?_,fun j hj=>?_⟩
 ·have:=h.row
  simp only[aB];rw[if_neg (show ¬ ((228023:Nat)=228500+i) by omega)];exact this
 ·rw[DebA.wP_deb a _ hj]
  simp only[aB]
  by_cases hji:j=i
  ·subst hji
   rw[if_pos rfl,if_pos rfl]
   rfl
  ·rw[if_neg (show ¬ ((228500+j:Nat)=228500+i) by omega),if_neg hji]
   have:=h.blk j hj;rw[DebA.wP_deb a _ hj] at this;exact this
theorem DebA.wP_self {a:DebA} (h:a.P.length=a.cash.length):a.wP (fun j=>a.P.getD j false)=a:=by
 have:bL a.cash.length (fun j=>a.P.getD j false)=a.P:=by
  refine i6 (d:=false) (xC _ _) h fun j hj=>?_
  rw[af1,yW _ hj];rfl
 unfold DebA.wP;rw[this]
theorem DebA.wP_congr (a:DebA) {p q:Nat→Bool} (h:∀ i,i<a.cash.length→p i=q i):a.wP p=a.wP q:=by
 unfold DebA.wP;rw[HI h]
def OutD (n:Nat) (mem m:Mem):Prop:=∀ k,(∀ i,i<n→k≠228500+i)→m k=mem k
theorem OutD.upd {n i g:Nat} {cs:List MV} {mem m:Mem} (h:OutD n mem m) (hi:i<n):OutD n mem (aB m (228500+i) g cs):=fun k hk=>by
 simp only[aB];rw[if_neg (hk i hi)];exact h k hk
theorem OutD.no {n j:Nat} {mem m:Mem} (h:OutD n mem m) (hn:n≤5) (hj:j≠228) (hm:NoK j mem):NoK j m:=fun k hk=>by
 rw[h k fun i hi=>by omega]
 exact hm k hk
theorem RC (T:Tab) (aF:T bf=mkE fk) (au:T aV=mkE cV) {K:bP→St→Prop} {kk:List Todo} (mem0:Mem) (a:DebA) (p:Nat→Bool) (hfine:a.Fine) (h:Nat→Rat) (hlim:∀ i,i<a.cash.length→cm (h i)) (tm:Nat→MV) (m:Mem)
  (hat:(a.wP p).At m) (hfr:OutD a.cash.length mem0 m) (e0:tm 0 = .ref 228023 a.g 1 0 a.cash.length) (e6:tm 6 = .dat (.sl ((bJ a.cash.length h).map ae))) (e8:tm 8 = .dat (.bool false)) (e28:tm 28 = .ref 228023 a.g 1 0 a.cash.length) (e29:tm 29 = .dat (.int .i64 a.cash.length)) (e30:tm 30 = .dat (.int .i64 0))
  (hK:∀ tm' m',tm' 0 = .ref 228023 a.g 1 0 a.cash.length→tm' 6 = .dat (.sl ((bJ a.cash.length h).map ae))→tm' 8 = .dat (.bool (oW (ab a.cash a.cs) (fOf a.fl) h p a.cash.length))→(a.wP (iM (ab a.cash a.cs) (fOf a.fl) h p a.cash.length)).At m'→OutD a.cash.length mem0 m'→kont T K kk (.exit 4) ⟨tm',m'⟩) :
  wp T (mf_clear_round.body.sub [1,1,0,0,0,1,1,1,0,1,0]) (kont T K kk) ⟨tm,m⟩:=by
 simp only[mf_clear_round,MCode.sub];obtain⟨hs,h10⟩:=hfine;have hn:=hs.n5
 refine af [0,6,28,29] [] (fun (i:Nat) tm m=>i≤a.cash.length∧tm 30 = .dat (.int .i64 i)∧tm 8 = .dat (.bool (oW (ab a.cash a.cs) (fOf a.fl) h p i))∧(a.wP (iM (ab a.cash a.cs) (fOf a.fl) h p i)).At m∧OutD a.cash.length mem0 m) (fun i=>a.cash.length-i) 0 (by
  refine⟨by omega,e30,e8,?_,hfr⟩
  have:a.wP (iM (ab a.cash a.cs) (fOf a.fl) h p 0)=a.wP p:=a.wP_congr fun j _=>by
   unfold iM;rw[decide_eq_false (by omega),af2,af3]
  rw[this];exact hat) ?_
 intro vs ms hvs hms;simp only[go_sem,go_sem_proc,af4,e0,e6,e28,e29] at hvs hms;subst hvs hms;clear e0 e6 e8 e28 e29 e30 hat hfr tm m;rintro i tm m hk-⟨hi,e30,e8,hat,hfr⟩;simp only[go_sem,go_sem_proc,af4,List.cons.injEq] at hk;obtain⟨e0,e6,e28,e29⟩:=hk;rcases af5 (i<a.cash.length) with hlt | hge
 ·have d1:decide ((i:Int)<(a.cash.length:Int))=true:=decide_eq_true (by omega)
  have w3:IntKind.i64.wrap ((i:Int)+1)=((i+1:Nat):Int):=by rw[al _ (by omega) (by omega)];omega
  have hfi:a.fl.getD i 10=(fOf a.fl i:Int)∧fOf a.fl i≤10:=DebA.f_eq (a:=a.wP (iM (ab a.cash a.cs) (fOf a.fl) h p i)) hat ⟨hs,h10⟩ hlt;obtain⟨hfi,hf10⟩:=hfi;have hrow:m 228023=some (a.g,fL a.cash.length fun i => .ptr (228500+i) (a.gs.getD i 0) 0):=hat.row;have hblk:m (228500+i)=some (a.gs.getD i 0,dH ((a.wP (iM (ab a.cash a.cs) (fOf a.fl) h p i)).deb i)):=hat.blk i hlt;rw[DebA.wP_deb a _ hlt,Ak] at hblk;have hri:=nn (cQ (fun i=>MV.ptr (228500+i) (a.gs.getD i 0) 0) hlt);have hrl:(fL a.cash.length fun i=>MV.ptr (228500+i) (a.gs.getD i 0) 0).length=a.cash.length:=bT _ _;have hok:((a.deb i).sp (p i)).OK:=⟨(a.deb_ok i).cl,(a.deb_ok i).us⟩;have hlen:=jL hok;have qf:af6 1 (af7 22 (dH ((a.deb i).sp (p i))))=[iC (fOf a.fl i:Int)]:=(z5 hok).trans (congrArg (fun x=>[iC x]) hfi);have qp:af6 1 (af7 23 (dH ((a.deb i).sp (p i))))=[bC (p i)]:=M7 hok;have qu:=sX hok (k:=fOf a.fl i) (z:=aP a.cs i (fOf a.fl i:Nat)) (cQ _ (by omega));have qs:_=dH ((a.deb i).sp true):=zf hok true;have hset:=hat.setp hlt true;have hms:=Ci (ab a.cash a.cs) (fOf a.fl) h p i
  have hsame:(p i=true∨sD (ab a.cash a.cs) (fOf a.fl) h i=false)→a.wP (iM (ab a.cash a.cs) (fOf a.fl) h p (i+1))=a.wP (iM (ab a.cash a.cs) (fOf a.fl) h p i):=fun hh=>a.wP_congr fun j _=>by
   rw[sZ]
   by_cases hj:j=i
   ·subst hj
    rw[if_pos rfl,Ak];rcases hh with h1 | h1
    ·rw[h1];rfl
    ·rw[h1,af3]
   ·rw[if_neg hj]
  have l1:i+1≤a.cash.length:=by omega
  have l2:fOf a.fl i<11:=by omega
  have l3:(11+fOf a.fl i+1≤24)=True:=eq_true (by omega);have l4:(23+1≤24)=True:=eq_true (by omega);generalize hRW:(fL a.cash.length fun i=>MV.ptr (228500+i) (a.gs.getD i 0) 0)=RW at *;have hKK:228500+i=228500+i:=rfl;generalize hKd:228500+i=KK at *;generalize hDD:dH ((a.deb i).sp (p i))=DC at *;rcases d2:decide ((fOf a.fl i:Int)<10)
  ·have hnew:sD (ab a.cash a.cs) (fOf a.fl) h i=false:=by
    unfold sD;rw[decide_eq_false (by have:=of_decide_eq_false d2;omega),af2]
   rw[hnew,af8,af3] at hms;simp only[go_sem,go_sem_proc,af4,e0,e6,e8,e28,e29,e30,hrow,hblk,hri,hrl,hlen,qf,d1,d2,w3,hlt,l1,iC,bC,af9]
   repeat' (first|refine qS ?_ ?_|fail)<;>intro h<;>simp only[h,go_sem,go_sem_proc,af4,e0,e6,e8,e28,e29,e30,hrow,hblk,hri,hrl,hlen,qf,d1,d2,w3,hlt,l1,iC,bC,af9]
   exact⟨i+1,by omega,by omega,rfl,by rw[hms],by rw[hsame (.inr hnew)];exact hat,hfr⟩
  ·rcases hpi:p i
   ·rw[hpi] at qp
    have hU:=hs.upto i (fOf a.fl i);have iU:cn (aP a.cs i (fOf a.fl i:Nat)):=dT (by omega) (by omega);have hw:=eN _ iU;have hcmp:=eT (hlim i hlt) (fM iU);have hgt:decide (jp (h i) ((aP a.cs i (fOf a.fl i:Nat):Int):Rat)>0)=decide (((aP a.cs i (fOf a.fl i:Nat):Int):Rat)<h i):=Bi
    have hne:sD (ab a.cash a.cs) (fOf a.fl) h i=decide (((aP a.cs i (fOf a.fl i:Nat):Int):Rat)<h i):=by
     unfold sD;rw[d7 hs.right,decide_eq_true (show fOf a.fl i<10 by have:=of_decide_eq_true d2;omega),aga]
    rw[←hne] at hgt;have hvg:=dS h hlt;generalize hH:aj (h i)=H at *;generalize hX:aj ((aP a.cs i (fOf a.fl i:Nat):Int):Rat)=X at *;obtain⟨⟨b1,b2⟩,⟨b3,b4⟩⟩:=X;obtain⟨⟨a1,a2⟩,⟨a3,a4⟩⟩:=H;simp only[ae] at hw hcmp;rcases hnew:sD (ab a.cash a.cs) (fOf a.fl) h i
    ·rw[hnew] at hgt
     rw[hpi,hnew,af8,af3] at hms;simp only[go_sem,go_sem_proc,af4,aF,au,e0,e6,e8,e28,e29,e30,hrow,hblk,hri,hrl,hlen,qf,qp,qu,d1,d2,w3,hlt,l1,l2,l3,hw,hcmp,hgt,hvg,ae,iC,bC,af9,agb,agc,agd,age]
     repeat' (first|refine qS ?_ ?_|fail)<;>intro h<;>simp only[h,go_sem,go_sem_proc,af4,aF,au,e0,e6,e8,e28,e29,e30,hrow,hblk,hri,hrl,hlen,qf,qp,qu,d1,d2,w3,hlt,l1,l2,l3,hw,hcmp,hgt,hvg,ae,iC,bC,af9,agb,agc,agd,age]
     exact⟨i+1,by omega,by omega,rfl,by rw[hms],by rw[hsame (.inr hnew)];exact hat,hfr⟩
    ·rw[hnew] at hgt
     rw[hpi,hnew,agb,aga,agf] at hms
     have hnx:a.wP (iM (ab a.cash a.cs) (fOf a.fl) h p (i+1))=a.wP fun j=>if j=i then true else iM (ab a.cash a.cs) (fOf a.fl) h p i j:=a.wP_congr fun j _=>by
      rw[sZ,hnew,agf]
     rw[←hnx] at hset;have hfr2:=hfr.upd (g:=a.gs.getD i 0) (cs:=dH ((a.deb i).sp true)) hlt;rw[hKd] at hfr2;simp only[go_sem,go_sem_proc,af4,aF,au,e0,e6,e8,e28,e29,e30,hrow,hblk,hri,hrl,hlen,qf,qp,qu,qs,d1,d2,w3,hlt,l1,l2,l3,l4,hw,hcmp,hgt,hvg,ae,iC,bC,af9,agb,agc,agd,age]
     repeat' (first|refine qS ?_ ?_|fail)<;>intro h<;>simp only[h,go_sem,go_sem_proc,af4,aF,au,e0,e6,e8,e28,e29,e30,hrow,hblk,hri,hrl,hlen,qf,qp,qu,qs,d1,d2,w3,hlt,l1,l2,l3,l4,hw,hcmp,hgt,hvg,ae,iC,bC,af9,agb,agc,agd,age]
     exact⟨i+1,by omega,by omega,rfl,by rw[hms],hset,hfr2⟩
   ·rw[hpi] at qp
    rw[hpi,agc,af2,af3] at hms;simp only[go_sem,go_sem_proc,af4,e0,e6,e8,e28,e29,e30,hrow,hblk,hri,hrl,hlen,qf,qp,d1,d2,w3,hlt,l1,iC,bC,af9,agc]
    repeat' (first|refine qS ?_ ?_|fail)<;>intro h<;>simp only[h,go_sem,go_sem_proc,af4,e0,e6,e8,e28,e29,e30,hrow,hblk,hri,hrl,hlen,qf,qp,d1,d2,w3,hlt,l1,iC,bC,af9,agc]
    exact⟨i+1,by omega,by omega,rfl,by rw[hms],by rw[hsame (.inl hpi)];exact hat,hfr⟩
 ·have d1:decide ((i:Int)<(a.cash.length:Int))=false:=decide_eq_false (by omega)
  obtain rfl:i=a.cash.length:=by omega
  simp only[go_sem,go_sem_proc,af4,e0,e6,e8,e28,e29,e30,d1]
  repeat' (first|refine qS ?_ ?_|fail)<;>intro h<;>simp only[h,go_sem,go_sem_proc,af4,e0,e6,e8,e28,e29,e30,d1]
  refine hK _ _ ?_ ?_ ?_ hat hfr<;>simp only[aW,agh,if_false,e0,e6,e8]
structure RnQ (a:DebA) (mem:Mem):Prop where
 at_:a.At mem
 n1:NoK 248 mem
 n2:NoK 255 mem
 n3:NoK 256 mem
 fine:a.Fine
 inv:∃ g,Inv (ab a.cash a.cs) (fOf a.fl) g
def yZ (a:DebA) (mem:Mem):MV→Mem→Prop:=fun m mem'=>m = .tup [.dat (.sl ((bJ a.cash.length ((ab a.cash a.cs).top (fOf a.fl))).map ae)),.dat (.bool true)]∧∃ p,(a.wP p).At mem'∧OutD a.cash.length mem mem'
noncomputable def nR:List MV→Mem→Option (MV→Mem→Prop):=QQ (fun (a:DebA) args mem=>args=[.ref 228023 a.g 1 0 a.cash.length]∧RnQ a mem) yZ
theorem Bo (a:DebA) (mem:Mem) (h:RnQ a mem):nR [.ref 228023 a.g 1 0 a.cash.length] mem=some (yZ a mem):=by
 refine IW (a:=a) ?_ ⟨rfl,h⟩;rintro a b args mem ⟨e1,e2⟩ ⟨e3,e4⟩;rw[DebA.uniq e2.at_ e4.at_]
theorem Ic (T:Tab) (MP:T lL=mkN yl) (aF:T bf=mkE fk) (au:T aV=mkE cV) (a:DebA) (mem:Mem) (ha:RnQ a mem) :
  wp T mf_clear_round.body (qU mf_clear_round.res (yZ a mem)) ⟨az [.ref 228023 a.g 1 0 a.cash.length],mem⟩:=by
 obtain⟨hat0,n1,n2,n3,hfine,g0,hinv⟩:=ha;have hs:=hfine.sm;have hn:=hs.n5;have hd:=hs.ok;refine aq ?_;simp only[mf_clear_round];simp only[go_sem,go_sem_proc,af4]
 refine af [0,11,12] [] (fun (i:Nat) tm m=>i≤a.cash.length∧tm 13 = .dat (.int .i64 i)∧(a.wP fun j=>if j<i then false else a.P.getD j false).At m∧OutD a.cash.length mem m) (fun i=>a.cash.length-i) 0 (by
  refine⟨by omega,rfl,?_,fun _ _=>rfl⟩
  have:(a.wP fun j=>if j<0 then false else a.P.getD j false)=a:=(a.wP_congr fun j _=>by rw[if_neg (by omega)]).trans (DebA.wP_self hat0.pl);rw[this];exact hat0) ?_
 intro vs ms hvs hms;simp only[go_sem,go_sem_proc,af4] at hvs hms;subst hvs hms;rintro i tm m hk-⟨hi,e13,hat,hfr⟩;simp only[go_sem,go_sem_proc,af4,List.cons.injEq] at hk;obtain⟨e0,e11,e12⟩:=hk;rcases af5 (i<a.cash.length) with hlt | hge
 ·have d1:decide ((i:Int)<(a.cash.length:Int))=true:=decide_eq_true (by omega)
  have w3:IntKind.i64.wrap ((i:Int)+1)=((i+1:Nat):Int):=by rw[al _ (by omega) (by omega)];omega
  have hrow:m 228023=some (a.g,fL a.cash.length fun i => .ptr (228500+i) (a.gs.getD i 0) 0):=hat.row;have hblk:m (228500+i)=some (a.gs.getD i 0,_):=hat.blk i hlt;rw[DebA.wP_deb a _ hlt] at hblk;have hri:=nn (cQ (fun i=>MV.ptr (228500+i) (a.gs.getD i 0) 0) hlt);have hrl:(fL a.cash.length fun i=>MV.ptr (228500+i) (a.gs.getD i 0) 0).length=a.cash.length:=bT _ _;have hok:((a.deb i).sp (if i<i then false else a.P.getD i false)).OK:=⟨(a.deb_ok i).cl,(a.deb_ok i).us⟩;have hlen:=jL hok;have qs:_=dH ((a.deb i).sp false):=zf hok false;have hset:=hat.setp hlt false;have hfr2:=hfr.upd (g:=a.gs.getD i 0) (cs:=dH ((a.deb i).sp false)) hlt
  have hnx:(a.wP fun j=>if j<i+1 then false else a.P.getD j false)=a.wP fun j=>if j=i then false else if j<i then false else a.P.getD j false:=a.wP_congr fun j _=>by
   by_cases h1:j=i
   ·rw[if_pos h1,if_pos (by omega)]
   ·rw[if_neg h1]
    by_cases h2:j<i
    ·rw[if_pos h2,if_pos (by omega)]
    ·rw[if_neg h2,if_neg (by omega)]
  rw[←hnx] at hset;have l1:i+1≤a.cash.length:=by omega
  have l4:(23+1≤24)=True:=eq_true (by omega);generalize hRW:(fL a.cash.length fun i=>MV.ptr (228500+i) (a.gs.getD i 0) 0)=RW at *;generalize hKd:228500+i=KK at *;generalize hDD:dH ((a.deb i).sp (if i<i then false else a.P.getD i false))=DC at *;simp only[go_sem,go_sem_proc,af4,e0,e11,e12,e13,hrow,hblk,hri,hrl,hlen,qs,d1,w3,hlt,l1,l4,iC,bC,af9]
  repeat' (first|refine qS ?_ ?_|fail)<;>intro h<;>simp only[h,go_sem,go_sem_proc,af4,e0,e11,e12,e13,hrow,hblk,hri,hrl,hlen,qs,d1,w3,hlt,l1,l4,iC,bC,af9]
  exact⟨i+1,by omega,by omega,rfl,hset,hfr2⟩
 ·have d1:decide ((i:Int)<(a.cash.length:Int))=false:=decide_eq_false (by omega)
  obtain rfl:i=a.cash.length:=by omega
  have hnx:(a.wP fun j=>if j<a.cash.length then false else a.P.getD j false)=a.wP fun _=>false:=a.wP_congr fun j hj=>by rw[if_pos hj]
  rw[hnx] at hat;simp only[go_sem,go_sem_proc,af4,e0,e11,e12,e13,d1]
  refine af [0] [] (fun (p:Nat→Bool) tm m=>(a.wP p).At m∧OutD a.cash.length mem m∧PayG (ab a.cash a.cs) (fOf a.fl) (pOf (bL a.cash.length p))) (fun p=>kV a.cash.length fun i=>if p i then 0 else 1) (fun _=>false) (by
   refine⟨hat,hfr,?_⟩;rw[GL];exact⟨hd,g0,hinv,Pay.first hd hinv⟩) ?_
  intro vs ms hvs hms;simp only[go_sem,go_sem_proc,af4,e0] at hvs hms;subst hvs hms;clear e0 e11 e12 e13 hfr hat;rintro p tm m e0-⟨hat,hfr,hpay⟩;simp only[go_sem,go_sem_proc,af4,List.cons.injEq] at e0;have hN:=BY (a.wP p) m ⟨hat,hfr.no hn (by decide) n1,hfr.no hn (by decide) n2,hfr.no hn (by decide) n3,⟨hfine.sm,hfine.h10⟩,hpay⟩;have hL:lsD (a.wP p) = .tup [.sl ((bJ a.cash.length ((ab a.cash a.cs).lst (fOf a.fl) (pOf (bL a.cash.length p)))).map ae),.bool true]:=rfl;rw[hL,show (a.wP p).g=a.g from rfl,show (a.wP p).cash=a.cash from rfl] at hN;simp only[go_sem,go_sem_proc,af4,MP,e0,hN,agc];refine RC T aF au m a p hfine ((ab a.cash a.cs).lst (fOf a.fl) (pOf (bL a.cash.length p))) (fun i hi=>du (JJ hs hpay hi) (by omega)) _ _ hat (fun _ _=>rfl) ?_ ?_ ?_ ?_ ?_ ?_ ?_
  all_goals first | (intro tm2 m2 k0 k6 k8 hat2 hfr2) | (simp only[aW,agh,if_false,if_true,e0];done)
  obtain⟨hok,g1,hi1,hp1⟩:=hpay;rcases hm:oW (ab a.cash a.cs) (fOf a.fl) ((ab a.cash a.cs).lst (fOf a.fl) (pOf (bL a.cash.length p))) p a.cash.length
  ·rw[hm] at k8
   have htop:=hp1.is_top hd hi1 fun i hi h1 h2=>pOf_bL.2 ⟨hi,LB hm hi h1 h2⟩
   rw[jk (N:=a.cash.length) htop] at k6;simp only[go_sem,go_sem_proc,af4,k0,k6,k8,agb]
   repeat' (first|refine qS ?_ ?_|fail)<;>intro h<;>simp only[h,go_sem,go_sem_proc,af4,k0,k6,k8,agb]
   exact⟨_,rfl,rfl,_,hat2,fun k hk=>(hfr2 k hk).trans (hfr k hk)⟩
  ·rw[hm] at k8
   simp only[go_sem,go_sem_proc,af4,k0,k6,k8,agc]
   repeat' (first|refine qS ?_ ?_|fail)<;>intro h<;>simp only[h,go_sem,go_sem_proc,af4,k0,k6,k8,agc]
   refine⟨_,L6 hm,hat2,fun k hk=>(hfr2 k hk).trans (hfr k hk),?_⟩
   have hsn:=Gv (d:=ab a.cash a.cs) (f:=fOf a.fl) (h:=(ab a.cash a.cs).lst (fOf a.fl) (pOf (bL a.cash.length p))) (p:=p);have hdn:(ab a.cash a.cs).n=a.cash.length:=rfl;rw[hdn] at hsn;rw[hsn];exact⟨hd,g1,hi1,hp1.succ hd hi1⟩
def opB (c:Int) (q:Nat→MV) (us:Nat→Int) (f:Int) (p:Bool):List MV:=iC c::(fL 10 q++((fL 11 us).map iC++[iC f,bC p]))
theorem sV (c:Int) (q:Nat→MV) (us:Nat→Int) (f:Int) (p:Bool):(opB c q us f p).length=24:=by
 simp [opB,bT]
theorem xE {c:Int} {q:Nat→MV} {us:Nat→Int} {f:Int} {p:Bool} {k:Nat} (hk:k<10):(opB c q us f p)[1+k]?=some (q k):=by
 unfold opB;rw[agi,agj,agk (by rw[bT];exact hk)];exact cQ q hk
theorem Oz {c:Int} {q:Nat→MV} {us:Nat→Int} {f:Int} {p:Bool} {k:Nat} (hk:k<10):af6 1 (af7 (1+k) (opB c q us f p))=[q k]:=nn (xE hk)
theorem Oo {c:Int} {q:Nat→MV} {us:Nat→Int} {f:Int} {p:Bool} {k:Nat} (hk:k<11):af6 1 (af7 (11+k) (opB c q us f p))=[.dat (.int .i64 (us k))]:=by
 refine nn ?_;unfold opB;rw[show 11+k=(10+k)+1 by omega,agj,agl (by rw[bT];omega),bT,agk (by rw[agd,bT];omega),show 10+k-10=k by omega,age,cQ us hk]
 rfl
theorem ld {l:List MV} {k:Nat} {v:MV} (hk:k<l.length):af6 k l++[v]++af7 (k+1) l=l.set k v:=by
 rw[List.set_eq_take_append_cons_drop,if_pos hk];simp
theorem ta {c:Int} {q:Nat→MV} {us:Nat→Int} {f:Int} {p:Bool} {k:Nat} (hk:k<10) (v:MV):(opB c q us f p).set (1+k) v=opB c (fun j=>if j=k then v else q j) us f p:=by
 unfold opB;rw[agi,agm,agn _ _ (by rw[bT];exact hk),nk]
theorem Hx {c:Int} {q:Nat→MV} {us:Nat→Int} {f:Int} {p:Bool} {k:Nat} (hk:k<11) (v:Int):(opB c q us f p).set (11+k) (.dat (.int .i64 v))=opB c q (fun j=>if j=k then v else us j) f p:=by
 unfold opB;rw[show 11+k=(10+k)+1 by omega,agm,ago _ _ (by rw[bT];omega),bT,agn _ _ (by rw[agd,bT];omega),show 10+k-10=k by omega,←nk,List.map_set]
 rfl
theorem gL {c:Int} {q q':Nat→MV} {us us':Nat→Int} {f:Int} {p:Bool} (h:∀ k,k<10→q k=q' k) (h':∀ k,k<11→us k=us' k):opB c q us f p=opB c q' us' f p:=by
 unfold opB;rw[bY h,bY h']
theorem M4 (T:Tab) {K:bP→St→Prop} {kk:List Todo} (m0:Mem) (KK gK g9:Nat) (c:Int) (q:Nat→MV) (us:Nat→Int) (c1 c2:Int) (r:Nat) (am:Int) (hr:r<10) (hb:∀ j,0≤us j∧us j≤4000000000000000000) (ham:0≤am∧am≤1000000000000000) (hKK:KK≠228009) (v5 v25 v26 v27:MV) (tm:Nat→MV) (m:Mem)
  (e5:tm 5=v5) (e9:tm 9 = .ptr 228009 g9 0) (e10:tm 10 = .ptr KK gK 0) (e11:tm 11 = .dat (.int .i64 (r+1:Nat))) (e25:tm 25=v25) (e26:tm 26=v26) (e27:tm 27=v27) (m9:m0 228009=some (g9,[.dat (.int .i64 c1),.dat (.int .i64 c2),.dat (.int .i64 r),.dat (.int .i64 am)])) (mK:m KK=some (gK,opB c q us 10 false)) (hfr:∀ k,k≠KK→m k=m0 k)
  (hK:∀ tm' m',tm' 5=v5→tm' 25=v25→tm' 26=v26→tm' 27=v27→m' KK=some (gK,opB c q (fun j=>us j+if r<j then am else 0) 10 false)→(∀ k,k≠KK→m' k=m0 k)→kont T K kk (.exit 4) ⟨tm',m'⟩) :
  wp T (mf_clear_open.body.sub [1,1,1,0,1,0,0,1,1,0,0,1,1,1,1,0]) (kont T K kk) ⟨tm,m⟩:=by
 simp only[mf_clear_open,MCode.sub]
 refine af [5,9,10,25,26,27] [] (fun (k:Nat) tm m=>r<k∧k≤11∧tm 11 = .dat (.int .i64 k)∧m KK=some (gK,opB c q (fun j=>us j+if r<j∧j<k then am else 0) 10 false)∧∀ k,k≠KK→m k=m0 k) (fun k=>11-k) (r+1) (by
  refine⟨by omega,by omega,e11,?_,hfr⟩
  rw[mK]
  congr 2
  exact gL (fun _ _=>rfl) fun j _=>by rw[if_neg (by omega)];omega) ?_
 intro vs ms hvs hms;simp only[go_sem,go_sem_proc,af4,e5,e9,e10,e25,e26,e27] at hvs hms;subst hvs hms;clear e5 e9 e10 e11 e25 e26 e27 mK hfr tm m;rintro k tm m hk-⟨hrk,hk11,e11,mK,hfr⟩;simp only[go_sem,go_sem_proc,af4,List.cons.injEq] at hk;obtain⟨e5,e9,e10,e25,e26,e27⟩:=hk;have q9:=(hfr 228009 (Ne.symm hKK)).trans m9;rcases af5 (k≤10) with hlt | hge
 ·have d1:decide ((k:Int)≤10)=true:=decide_eq_true (by omega)
  have w3:IntKind.i64.wrap ((k:Int)+1)=((k+1:Nat):Int):=by rw[al _ (by omega) (by omega)];omega
  have hlen:=sV c q (fun j=>us j+if r<j∧j<k then am else 0) 10 false;have hg:=Oo (c:=c) (q:=q) (us:=fun j=>us j+if r<j∧j<k then am else 0) (f:=10) (p:=false) (k:=k) (by omega);have hst:=(ld (l:=opB c q (fun j=>us j+if r<j∧j<k then am else 0) 10 false) (k:=11+k) (v:=.dat (.int .i64 (us k+am))) (by rw[sV];omega)).trans (Hx (by omega) (us k+am))
  have hnx:opB c q (fun j=>if j=k then us k+am else us j+if r<j∧j<k then am else 0) 10 false=opB c q (fun j=>us j+if r<j∧j<k+1 then am else 0) 10 false:=gL (fun _ _=>rfl) fun j _=>by
   by_cases hj:j=k
   ·rw[if_pos hj,hj,if_pos ⟨hrk,by omega⟩]
   ·rw[if_neg hj]
    by_cases h2:r<j∧j<k
    ·rw[if_pos h2,if_pos ⟨h2.1,by omega⟩]
    ·rw[if_neg h2,if_neg (by omega)]
  rw[hnx] at hst;rw[if_neg (by omega),agp] at hg;have wA:IntKind.i64.wrap (us k+am)=us k+am:=by have:=hb k;rw[al _ (by omega) (by omega)]
  have l2:k<11:=by omega
  have l3:(11+k+1≤24)=True:=eq_true (by omega);have b9:(KK==228009)=false:=beq_eq_false_iff_ne.2 hKK;have b9':(228009==KK)=false:=beq_eq_false_iff_ne.2 (Ne.symm hKK);generalize opB c q (fun j=>us j+if r<j∧j<k then am else 0) 10 false=D1 at *;generalize hD2:opB c q (fun j=>us j+if r<j∧j<k+1 then am else 0) 10 false=D2 at *;refine qI ?_
  repeat' (intro h<;>simp only[h,go_sem,go_sem_proc,af4,e5,e9,e10,e11,e25,e26,e27,q9,mK,d1,w3,hlen,hg,hst,wA,l2,l3,b9,b9',af9]<;>try refine qS ?_ ?_)
  refine⟨k+1,by omega,by omega,by omega,rfl,by rw[hD2],fun j hj=>?_⟩
  simp only[aB,hj,if_false];exact hfr j hj
 ·have d1:decide ((k:Int)≤10)=false:=decide_eq_false (by omega)
  obtain rfl:k=11:=by omega
  have hnx:opB c q (fun j=>us j+if r<j∧j<11 then am else 0) 10 false=opB c q (fun j=>us j+if r<j then am else 0) 10 false:=gL (fun _ _=>rfl) fun j hj=>by
   by_cases h2:r<j
   ·rw[if_pos ⟨h2,hj⟩,if_pos h2]
   ·rw[if_neg (by omega),if_neg h2]
  rw[hnx] at mK;refine qI ?_
  repeat' (intro h<;>simp only[h,go_sem,go_sem_proc,af4,e5,e9,e10,e11,e25,e26,e27,d1]<;>try refine qS ?_ ?_)
  refine hK _ _ ?_ ?_ ?_ ?_ mK hfr<;>simp only[aW,agh,if_false,e5,e25,e26,e27]
def cM (l:List ClR) (gg:Nat→Nat→Nat) (i k:Nat):MV:=if aX l i k=[] then .nil else .ref (228600+10*i+k) (gg i k) 4 0 (aX l i k).length
structure OpAt (cash:List Int) (l:List ClR) (g:Nat) (gs:Nat→Nat) (gg:Nat→Nat→Nat) (m:Mem):Prop where
 row:m 228023=some (g,fL cash.length fun i => .ptr (228500+i) (gs i) 0)
 blk:∀ i,i<cash.length→m (228500+i)=some (gs i,opB (cash.getD i 0) (cM l gg i) (fun k=>aP l i (k:Nat)) 10 false)
 cel:∀ i k,i<cash.length→k<10→aX l i k≠[]→m (228600+10*i+k)=some (gg i k,ay clL (aX l i k))
theorem JO (l:List ClR) (c:ClR) (i k:Nat):aX (l++[c]) i k=if c.1=(i:Int)∧c.2.2.1=(k:Int) then aX l i k++[c] else aX l i k:=by
 unfold aX;rw[agq]
 by_cases h:c.1=(i:Int)∧c.2.2.1=(k:Int)
 ·rw[if_pos h,agr (by simp [h.1,h.2]),ags]
 ·rw[if_neg h,agt (by simpa using h),ags,agu]
theorem l6 (l:List ClR) (c1 c2 c3 c4:Int) (i k:Nat):aX (l++[(c1,c2,c3,c4)]) i k=if c1=(i:Int)∧c3=(k:Int) then aX l i k++[(c1,c2,c3,c4)] else aX l i k:=JO l _ i k
theorem Ik (l:List ClR) (c:ClR) (i r:Int):aP (l++[c]) i r=aP l i r+if c.1=i∧c.2.2.1<r then c.2.2.2 else 0:=by
 unfold aP;rw[qD]
theorem wY (l:List ClR) (c1 c2 c3 c4 i r:Int):aP (l++[(c1,c2,c3,c4)]) i r=aP l i r+if c1=i∧c3<r then c4 else 0:=Ik l _ i r
theorem OpAt.next {cash:List Int} {l:List ClR} {g:Nat} {gs:Nat→Nat} {gg:Nat→Nat→Nat} {m m':Mem} (h:OpAt cash l g gs gg m) (hn:cash.length≤5) {c1 c3:Nat} {c2 c4:Int} (hc1:c1<cash.length) (hc3:c3<10) (gn:Nat)
  (hrow:m' 228023=m 228023) (hoth:∀ i,i<cash.length→i≠c1→m' (228500+i)=m (228500+i)) (hblk:m' (228500+c1)=some (gs c1,opB (cash.getD c1 0) (fun k=>if k=c3 then .ref (228600+10*c1+c3) gn 4 0 ((aX l c1 c3).length+1) else cM l gg c1 k) (fun k=>aP l c1 (k:Nat)+if c3<k then c4 else 0) 10 false))
  (hcel:m' (228600+10*c1+c3)=some (gn,ay clL (aX l c1 c3++[((c1:Int),c2,(c3:Int),c4)]))) (hcoth:∀ i k,i<cash.length→k<10→¬ (i=c1∧k=c3)→m' (228600+10*i+k)=m (228600+10*i+k)):OpAt cash (l++[((c1:Int),c2,(c3:Int),c4)]) g gs (fun i k=>if i=c1∧k=c3 then gn else gg i k) m':=by
 refine⟨by rw[hrow];exact h.row,fun i hi=>?_,fun i k hi hk hne=>?_⟩
 ·by_cases hic:i=c1
  ·subst hic
   rw[hblk]
   congr 2
   refine gL (fun k hk=>?_) fun k hk=>?_
   ·unfold cM
    by_cases hkc:k=c3
    ·subst hkc
     have e1:aX (l++[((i:Int),c2,(k:Int),c4)]) i k=aX l i k++[((i:Int),c2,(k:Int),c4)]:=by rw[l6,if_pos ⟨rfl,rfl⟩]
     rw[e1,if_pos rfl,if_neg (by simp),agv];simp
    ·have e1:aX (l++[((i:Int),c2,(c3:Int),c4)]) i k=aX l i k:=by rw[l6,if_neg (by omega)]
     rw[if_neg hkc,e1];dsimp only;rw[if_neg (show ¬ (i=i∧k=c3) by omega)]
   ·rw[wY]
    by_cases hk2:c3<k
    ·rw[if_pos hk2,if_pos (by omega)]
    ·rw[if_neg hk2,if_neg (by omega)]
  ·rw[hoth i hi hic,h.blk i hi]
   congr 2
   refine gL (fun k hk=>?_) fun k hk=>?_
   ·unfold cM
    have e1:aX (l++[((c1:Int),c2,(c3:Int),c4)]) i k=aX l i k:=by rw[l6,if_neg (by omega)]
    rw[e1];dsimp only;rw[if_neg (show ¬ (i=c1∧k=c3) by omega)]
   ·rw[wY,if_neg (by omega),agp]
 ·by_cases hic:i=c1∧k=c3
  ·obtain⟨rfl,rfl⟩:=hic
   have e1:aX (l++[((i:Int),c2,(k:Int),c4)]) i k=aX l i k++[((i:Int),c2,(k:Int),c4)]:=by rw[l6,if_pos ⟨rfl,rfl⟩]
   rw[e1,if_pos ⟨rfl,rfl⟩];exact hcel
  ·have e1:aX (l++[((c1:Int),c2,(c3:Int),c4)]) i k=aX l i k:=by rw[l6,if_neg (by omega)]
   rw[e1] at hne ⊢;rw[if_neg hic,hcoth i k hi hk hic];exact h.cel i k hi hk hne
theorem rn {K:St→Prop} {tm:Nat→MV} {mem mem':Mem} (h:MoveS mem mem') (hK:∀ M,M=mem'→K ⟨tm,M⟩):dP K ⟨tm,mem⟩ .many:=⟨mem',.step h (.refl _),hK _ rfl⟩
theorem rN {K:St→Prop} {tm:Nat→MV} {mem:Mem} (hK:∀ M,M=mem→K ⟨tm,M⟩):dP K ⟨tm,mem⟩ .many:=⟨mem,.refl _,hK _ rfl⟩
theorem cj {m:Mem} {k g:Nat} {cs:List MV}:aB m k g cs k=some (g,cs):=by simp [aB]
theorem aH {m:Mem} {k j g:Nat} {cs:List MV} (h:k≠j):aB m j g cs k=m k:=by
 simp only[aB];rw[if_neg h]
theorem Qr (T:Tab) {K:bP→St→Prop} {kk:List Todo} (mem0:Mem) (cash:List Int) (cs:List ClR) (hs:SmallD cash cs) (g:Nat) (gs:Nat→Nat) (gg:Nat→Nat→Nat) (tm:Nat→MV) (m:Mem)
  (e5:tm 5 = .ref 228023 g 1 0 cash.length) (e25:tm 25 = .dat (.sl (cs.map clL))) (e26:tm 26 = .dat (.int .i64 cs.length)) (e27:tm 27 = .dat (.int .i64 0)) (hat:OpAt cash [] g gs gg m) (hfr:FrK 228 mem0 m)
  (hK:∀ tm' m' gg',tm' 5 = .ref 228023 g 1 0 cash.length→OpAt cash cs g gs gg' m'→FrK 228 mem0 m'→kont T K kk (.exit 2) ⟨tm',m'⟩) :
  wp T (mf_clear_open.body.sub [1,1,1,0,1,0]) (kont T K kk) ⟨tm,m⟩:=by
 simp only[mf_clear_open,MCode.sub];have hn:=hs.n5;have hr:=(rightD_iff.1 hs.right).2.2.2;have h12:=hs.c12;refine af [5,25,26] [] (fun ((t,gg):Nat × (Nat→Nat→Nat)) tm m=>t≤cs.length∧tm 27 = .dat (.int .i64 t)∧OpAt cash (cs.take t) g gs gg m∧FrK 228 mem0 m) (fun (t,_)=>cs.length-t) (0,gg) (by refine⟨by omega,e27,by rw[agw];exact hat,hfr⟩) ?_;intro vs ms hvs hms;simp only[go_sem,go_sem_proc,af4,e5,e25,e26] at hvs hms;subst hvs hms;clear e5 e25 e26 e27 hat hfr tm m;rintro⟨t,gg⟩ tm m hk-⟨ht,e27,hat,hfr⟩;simp only[go_sem,go_sem_proc,af4,List.cons.injEq] at hk;obtain⟨e5,e25,e26⟩:=hk;rcases af5 (t<cs.length) with hlt | hge
 ·have d1:decide ((t:Int)<(cs.length:Int))=true:=decide_eq_true (by omega)
  have w3:IntKind.i64.wrap ((t:Int)+1)=((t+1:Nat):Int):=by rw[al _ (by omega) (by omega)];omega
  obtain⟨⟨c1,c2,c3,c4⟩,hx⟩:∃ c,cs[t]?=some c:=⟨_,agx hlt⟩;have hrc:=hr _ (agy hx);dsimp only at hrc;obtain⟨c1,rfl⟩:∃ k:Nat,c1=(k:Int):=⟨c1.toNat,by omega⟩
  obtain⟨c3,rfl⟩:∃ k:Nat,c3=(k:Int):=⟨c3.toNat,by omega⟩
  have htk:cs.take (t+1)=cs.take t++[((c1:Int),c2,(c3:Int),c4)]:=by rw[agz,hx];rfl
  generalize hl:cs.take t=l at *;have hll:l.length≤12:=by rw[←hl,agA];omega
  have hc1:c1<cash.length:=by omega
  have hc3:c3<10:=by omega
  have hrow:=hat.row;have hblk:=hat.blk c1 hc1;have hri:=nn (cQ (fun i=>MV.ptr (228500+i) (gs i) 0) hc1);have hrl:(fL cash.length fun i=>MV.ptr (228500+i) (gs i) 0).length=cash.length:=bT _ _;have hlen:=sV (cash.getD c1 0) (cM l gg c1) (fun k=>aP l c1 (k:Nat)) 10 false;have qc:=Oz (c:=cash.getD c1 0) (q:=cM l gg c1) (us:=fun k=>aP l c1 (k:Nat)) (f:=10) (p:=false) hc3;have qs:=fun v=>(ld (l:=opB (cash.getD c1 0) (cM l gg c1) (fun k=>aP l c1 (k:Nat)) 10 false) (k:=1+c3) (v:=v) (by rw[sV];omega)).trans (ta hc3 v)
  have l1:c1+1≤cash.length:=by omega
  have l3:(1+c3+1≤24)=True:=eq_true (by omega);have w1:IntKind.i64.wrap ((c3:Int)+1)=((c3+1:Nat):Int):=by rw[al _ (by omega) (by omega)];omega
  generalize hRW:(fL cash.length fun i=>MV.ptr (228500+i) (gs i) 0)=RW at *;generalize hDD:opB (cash.getD c1 0) (cM l gg c1) (fun k=>aP l c1 (k:Nat)) 10 false=DC at *;generalize hKd:228500+c1=KK at *;have n9:(KK=228009)=False:=eq_false (by omega);have n48:(KK=228048)=False:=eq_false (by omega);have b9:(KK==228009)=false:=beq_eq_false_iff_ne.2 (by omega);have b9':(228009==KK)=false:=beq_eq_false_iff_ne.2 (by omega);have b48:(KK==228048)=false:=beq_eq_false_iff_ne.2 (by omega);have b48':(228048==KK)=false:=beq_eq_false_iff_ne.2 (by omega);have hml:(1≤maxLen)=True:=eq_true (by decide);have hUb:=fun j=>(EH hs.right).upto c1 j
  have hub:∀ j:Nat,0≤aP l c1 (j:Nat)∧aP l c1 (j:Nat)≤4000000000000000000:=fun j=>by
   have:=(EH hs.right).sum (fun c=>c.1=(c1:Int)∧c.2.2.1<(j:Int)) t;rw[hl] at this;unfold aP;omega
  generalize hEd:228600+10*c1+c3=EK at *;have a1:(228009=KK)=False:=eq_false (by omega);have a2:(228009=EK)=False:=eq_false (by omega);have a3:(228048=EK)=False:=eq_false (by omega);have a4:(228048=KK)=False:=eq_false (by omega);have a5:(EK=KK)=False:=eq_false (by omega);have a6:(KK=EK)=False:=eq_false (by omega);have a7:(EK=228009)=False:=eq_false (by omega);have a8:(EK=228048)=False:=eq_false (by omega);have a9:(228009=228048)=False:=eq_false (by omega)
  have tail:∀ (tm':Nat→MV) (M2:Mem) (gn g9:Nat),tm' 5 = .ref 228023 g 1 0 cash.length→tm' 25 = .dat (.sl (cs.map clL))→tm' 26 = .dat (.int .i64 cs.length)→tm' 27 = .dat (.int .i64 t)→M2 KK=some (gs c1,opB (cash.getD c1 0) (fun k=>if k=c3 then .ref EK gn 4 0 ((aX l c1 c3).length+1) else cM l gg c1 k) (fun k=>aP l c1 (k:Nat)  + if c3<k then c4 else 0) 10 false)→M2 EK=some (gn,ay clL (aX l c1 c3++[((c1:Int),c2,(c3:Int),c4)]))→(∀ k:Nat,k≠228009→k≠228048→k≠KK→k≠EK→M2 k=m k)→OpAt cash (cs.take (t+1)) g gs (fun i k=>if i=c1∧k=c3 then gn else gg i k) M2∧FrK 228 mem0 M2:=by
   intro tm' M2 gn g9 k5 k25 k26 k27 hMK hME hMo;rw[htk];refine⟨OpAt.next hat hn hc1 hc3 gn ?_ (fun i hi hne=>?_) ?_ ?_ fun i k hi hk hne=>?_,fun k hk=>?_⟩
   ·exact hMo 228023 (by omega) (by omega) (by omega) (by omega)
   ·exact hMo (228500+i) (by omega) (by omega) (by omega) (by omega)
   ·rw[hKd,hEd];exact hMK
   ·rw[hEd];exact hME
   ·exact hMo (228600+10*i+k) (by omega) (by omega) (by omega) (by omega)
   ·rw[hMo k (by omega) (by omega) (by omega) (by omega)]
    exact hfr k hk
  by_cases hce:aX l c1 c3=[]
  ·have hcm:cM l gg c1 c3 = .nil:=by unfold cM;rw[if_pos hce]
   rw[hcm] at qc;simp only[go_sem,go_sem_proc,af4,hml,e5,e25,e26,e27,hx,hrow,hblk,hri,hrl,hlen,qc,qs,d1,l1,l3,hc1,hc3,n9,n48,b9,b9',b48,b48',clL,af9,agd,age];refine rn (MoveS.mref KK (gs c1) _ (1+c3) 228048 (cR (m 228048)) 4 0 1 _ EK cj (xE hc3 |>.trans (by rw[if_pos rfl])) ((aH (by omega)).trans cj) (by show (228048:Nat)≠KK;omega) (by show EK≠(228048:Nat);omega) (by show EK≠KK;omega)) ?_;intro M2 hM2;rw[ta hc3] at hM2
   have hM9:M2 228009=some (cR (m 228009),[.dat (.int .i64 c1),.dat (.int .i64 c2),.dat (.int .i64 c3),.dat (.int .i64 c4)]):=by
    rw[hM2];simp only[lj,a1,a2,a9,if_false,if_true]
   have hMK:∃ gn,M2 KK=some (gs c1,opB (cash.getD c1 0) (fun k=>if k=c3 then .ref EK gn 4 0 ((aX l c1 c3).length+1) else cM l gg c1 k) (fun k=>aP l c1 (k:Nat)) 10 false)∧M2 EK=some (gn,ay clL (aX l c1 c3++[((c1:Int),c2,(c3:Int),c4)])):=by
    rw[hce];apply Exists.intro;apply And.intro
    rotate_left
    ·rw[hM2];simp only[lj,a5,if_false,if_true];rfl
    ·rw[hM2];simp only[lj,if_true]
     congr 2
     refine gL (fun k _=>?_) fun _ _=>rfl
     by_cases hk:k=c3
     ·rw[if_pos hk,if_pos hk];rfl
     ·rw[if_neg hk,if_neg hk,if_neg hk]
   obtain⟨gn,hMK,hME⟩:=hMK
   have hMo:∀ k:Nat,k≠228009→k≠228048→k≠KK→k≠EK→M2 k=m k:=fun k h1 h2 h3 h4=>by
    rw[hM2];simp only[lj,h1,h2,h3,h4,if_false]
   clear hM2;simp only[go_sem,go_sem_proc,af4,hM9,w1,a1];refine M4 T M2 KK (gs c1) (cR (m 228009)) (cash.getD c1 0) (fun k=>if k=c3 then .ref EK gn 4 0 ((aX l c1 c3).length+1) else cM l gg c1 k) (fun k=>aP l c1 (k:Nat)) c1 c2 c3 c4 hc3 hub (by omega) (by omega) (.ref 228023 g 1 0 cash.length) (.dat (.sl (cs.map clL))) (.dat (.int .i64 cs.length)) (.dat (.int .i64 t)) _ _ ?_ ?_ ?_ ?_ ?_ ?_ ?_ hM9 hMK (fun _ _=>rfl) ?_
   all_goals first | (intro tm' m' k5 k25 k26 k27 qK qo) | (simp only[aW,agh,if_false,if_true,e5,e25,e26,e27];done)
   have hfin:=tail tm' m' gn 0 k5 k25 k26 k27 qK (by rw[qo EK (by omega)];exact hME) fun k h1 h2 h3 h4=>by rw[qo k h3];exact hMo k h1 h2 h3 h4
   refine qI ?_
   repeat' (intro h<;>simp only[h,go_sem,go_sem_proc,af4,k5,k25,k26,k27,w3]<;>try refine qS ?_ ?_)
   exact⟨(t+1,fun i k=>if i=c1∧k=c3 then gn else gg i k),by dsimp only;omega,by dsimp only;omega,rfl,hfin.1,hfin.2⟩
  ·have hcm:cM l gg c1 c3 = .ref EK (gg c1 c3) 4 0 (aX l c1 c3).length:=by unfold cM;rw[if_neg hce,hEd]
   rw[hcm] at qc;have hcel:=hat.cel c1 c3 hc1 hc3 hce;rw[hEd] at hcel;have hcl:(aX l c1 c3).length≤12:=agB (agC _ _) hll;have hap:=dw jz qt EK (gg c1 c3) 32 (aX l c1 c3) ((c1:Int),c2,(c3:Int),c4) (cs:=[.dat (.int .i64 c1),.dat (.int .i64 c2),.dat (.int .i64 c3),.dat (.int .i64 c4)]) rfl (by omega) (by omega);have b7:(EK==228009)=false:=beq_eq_false_iff_ne.2 (by omega);have b7':(228009==EK)=false:=beq_eq_false_iff_ne.2 (by omega);have b8:(EK==KK)=false:=beq_eq_false_iff_ne.2 (by omega);have b8':(KK==EK)=false:=beq_eq_false_iff_ne.2 (by omega);simp only[go_sem,go_sem_proc,af4,hml,e5,e25,e26,e27,hx,hrow,hblk,hri,hrl,hlen,qc,qs,d1,l1,l3,hc1,hc3,n9,n48,b9,b9',b48,b48',a3,a5,a6,a7,a8,b7,b7',b8,b8',hcel,hap,clL,af9,agd,age];refine rN ?_;intro M2 hM2
   have hM9:M2 228009=some (cR (m 228009),[.dat (.int .i64 c1),.dat (.int .i64 c2),.dat (.int .i64 c3),.dat (.int .i64 c4)]):=by
    rw[hM2];simp only[lj,a1,a2,a9,if_false,if_true]
   have hMK:M2 KK=some (gs c1,opB (cash.getD c1 0) (fun k=>if k=c3 then .ref EK (gg c1 c3+1) 4 0 ((aX l c1 c3).length+1) else cM l gg c1 k) (fun k=>aP l c1 (k:Nat)) 10 false):=by
    rw[hM2];simp only[lj,if_true]
   have hME:M2 EK=some (gg c1 c3+1,ay clL (aX l c1 c3++[((c1:Int),c2,(c3:Int),c4)])):=by
    rw[hM2];simp only[lj,a5,if_false,if_true]
   have hMo:∀ k:Nat,k≠228009→k≠228048→k≠KK→k≠EK→M2 k=m k:=fun k h1 h2 h3 h4=>by
    rw[hM2];simp only[lj,h1,h3,h4,if_false]
   clear hM2;simp only[go_sem,go_sem_proc,af4,hM9,w1,a1];refine M4 T M2 KK (gs c1) (cR (m 228009)) (cash.getD c1 0) (fun k=>if k=c3 then .ref EK (gg c1 c3+1) 4 0 ((aX l c1 c3).length+1) else cM l gg c1 k) (fun k=>aP l c1 (k:Nat)) c1 c2 c3 c4 hc3 hub (by omega) (by omega) (.ref 228023 g 1 0 cash.length) (.dat (.sl (cs.map clL))) (.dat (.int .i64 cs.length)) (.dat (.int .i64 t)) _ _ ?_ ?_ ?_ ?_ ?_ ?_ ?_ hM9 hMK (fun _ _=>rfl) ?_
   all_goals first | (intro tm' m' k5 k25 k26 k27 qK qo) | (simp only[aW,agh,if_false,if_true,e5,e25,e26,e27];done)
   have hfin:=tail tm' m' (gg c1 c3+1) 0 k5 k25 k26 k27 qK (by rw[qo EK (by omega)];exact hME) fun k h1 h2 h3 h4=>by rw[qo k h3];exact hMo k h1 h2 h3 h4
   refine qI ?_
   repeat' (intro h<;>simp only[h,go_sem,go_sem_proc,af4,k5,k25,k26,k27,w3]<;>try refine qS ?_ ?_)
   exact⟨(t+1,fun i k=>if i=c1∧k=c3 then gg c1 c3+1 else gg i k),by dsimp only;omega,by dsimp only;omega,rfl,hfin.1,hfin.2⟩
 ·have d1:decide ((t:Int)<(cs.length:Int))=false:=decide_eq_false (by omega)
  rw[agD (by omega)] at hat;refine qI ?_
  repeat' (intro h<;>simp only[h,go_sem,go_sem_proc,af4,e5,e25,e26,e27,d1]<;>try refine qS ?_ ?_)
  refine hK _ _ gg ?_ hat hfr;simp only[aW,agh,if_false,e5]
theorem Moves.trans {a b c:Mem} (h:Moves a b) (h':Moves b c):Moves a c:=by
 induction h with
 | refl=>exact h'
 | step h1 _ ih=>exact .step h1 (ih h')
theorem AA {K:St→Prop} {tm:Nat→MV} {mem mem':Mem} (h:Moves mem mem') (hK:K ⟨tm,mem'⟩):dP K ⟨tm,mem⟩ .many:=⟨mem',h,hK⟩
def cF (l:List ClR) (gg:Nat→Nat→Nat) (d i k:Nat):MV:=if 10*i+k<d then clM (aX l i k) else cM l gg i k
structure OpF (cash:List Int) (l:List ClR) (g:Nat) (gs:Nat→Nat) (gg:Nat→Nat→Nat) (d:Nat) (m:Mem):Prop where
 row:m 228023=some (g,fL cash.length fun i => .ptr (228500+i) (gs i) 0)
 blk:∀ i,i<cash.length→m (228500+i)=some (gs i,opB (cash.getD i 0) (cF l gg d i) (fun k=>aP l i (k:Nat)) 10 false)
 cel:∀ i k,i<cash.length→k<10→d≤10*i+k→aX l i k≠[]→m (228600+10*i+k)=some (gg i k,ay clL (aX l i k))
theorem OpF.step {cash:List Int} {l:List ClR} {g:Nat} {gs:Nat→Nat} {gg:Nat→Nat→Nat} {d:Nat} {m:Mem} (h:OpF cash l g gs gg d m) (hn:cash.length≤5) (hd:d<10*cash.length):∃ m',Moves m m'∧OpF cash l g gs gg (d+1) m'∧FrK 228 m m':=by
 obtain⟨i,k,hi,hk,rfl⟩:∃ i k,i<cash.length∧k<10∧d=10*i+k:=⟨d / 10,d % 10,by omega,by omega,by omega⟩
 have hother:∀ j r,j<cash.length→r<10→¬ (j=i∧r=k)→cF l gg (10*i+k+1) j r=cF l gg (10*i+k) j r:=fun j r hj hr hne=>by
  unfold cF
  by_cases h1:10*j+r<10*i+k
  ·rw[if_pos h1,if_pos (by omega)]
  ·rw[if_neg h1,if_neg (by omega)]
 by_cases hc:aX l i k=[]
 ·refine⟨m,.refl m,⟨h.row,fun j hj=>?_,fun j r hj hr hd hne=>h.cel j r hj hr (by omega) hne⟩,FrK.refl _ _⟩
  rw[h.blk j hj]
  congr 2
  refine gL (fun r hr=>?_) fun _ _=>rfl
  by_cases hjr:j=i∧r=k
  ·obtain⟨rfl,rfl⟩:=hjr
   unfold cF;rw[if_neg (by omega),if_pos (by omega)];unfold cM clM;rw[if_pos hc,if_pos hc]
  ·exact (hother j r hj hr hjr).symm
 ·have hb:=h.blk i hi
  have hcl:=h.cel i k hi hk (agE _) hc
  have hcf:cF l gg (10*i+k) i k = .ref (228600+10*i+k) (gg i k) 4 0 (aX l i k).length:=by
   unfold cF;rw[if_neg (by omega)];unfold cM;rw[if_neg hc]
  have hget:=xE (c:=cash.getD i 0) (q:=cF l gg (10*i+k) i) (us:=fun k=>aP l i (k:Nat)) (f:=10) (p:=false) hk;rw[hcf] at hget;have htd:toD 1 m (.ref (228600+10*i+k) (gg i k) 4 0 (aX l i k).length)=some (.sl ((aX l i k).map clL)):=eS (n:=0) jz hcl;refine⟨_,.step (MoveS.mfrz (228500+i) (gs i) _ (1+k) (228600+10*i+k) (gg i k) 4 0 (aX l i k).length _ (.sl ((aX l i k).map clL)) hb hget hcl (by show (228600+10*i+k:Nat)≠228500+i;omega) htd) (.refl _),⟨?_,fun j hj=>?_,fun j r hj hr hd hne=>?_⟩,fun x hx=>?_⟩
  ·rw[aH (by show (228023:Nat)≠228500+i;omega)]
   unfold kill;rw[aH (by show (228023:Nat)≠228600+10*i+k;omega)];exact h.row
  ·by_cases hji:j=i
   ·subst hji
    rw[cj,ta hk]
    congr 2
    refine gL (fun r hr=>?_) fun _ _=>rfl
    by_cases hrk:r=k
    ·subst hrk
     rw[if_pos rfl];unfold cF;rw[if_pos (by omega)];unfold clM;rw[if_neg hc]
    ·rw[if_neg hrk]
     exact (hother j r hj hr (by omega)).symm
   ·rw[aH (by show (228500+j:Nat)≠228500+i;omega)]
    unfold kill;rw[aH (by show (228500+j:Nat)≠228600+10*i+k;omega),h.blk j hj]
    congr 2
    refine gL (fun r hr=>(hother j r hj hr (by omega)).symm) fun _ _=>rfl
  ·rw[aH (by show (228600+10*j+r:Nat)≠228500+i;omega)]
   unfold kill;rw[aH (by show (228600+10*j+r:Nat)≠228600+10*i+k;omega)];exact h.cel j r hj hr (by omega) hne
  ·have hx':x / 1000≠228:=hx
   rw[aH (by show x≠228500+i;omega)];unfold kill;rw[aH (by show x≠228600+10*i+k;omega)]
theorem OpF.all {cash:List Int} {l:List ClR} {g:Nat} {gs:Nat→Nat} {gg:Nat→Nat→Nat} (hn:cash.length≤5):∀ r d m,d+r=10*cash.length→OpF cash l g gs gg d m→∃ m',Moves m m'∧OpF cash l g gs gg (10*cash.length) m'∧FrK 228 m m'
 | 0,d,m,hd,h=>⟨m,.refl m,by rw[←hd];exact h,FrK.refl _ _⟩
 | r+1,d,m,hd,h=>by
  obtain⟨m1,h1,h2,h3⟩:=h.step hn (by omega);obtain⟨m2,k1,k2,k3⟩:=OpF.all hn r (d+1) m1 (by omega) h2;exact⟨m2,h1.trans k1,k2,fun x hx=>(k3 x hx).trans (h3 x hx)⟩
theorem OpAt.toF {cash:List Int} {l:List ClR} {g:Nat} {gs:Nat→Nat} {gg:Nat→Nat→Nat} {m:Mem} (h:OpAt cash l g gs gg m):OpF cash l g gs gg 0 m :=
 ⟨h.row,fun i hi=>by
  rw[h.blk i hi]
  congr 2,fun i k hi hk _ hne=>h.cel i k hi hk hne⟩
def opA (cash:List Int) (cs:List ClR) (g:Nat) (gs:Nat→Nat):DebA:=⟨cash,aG cash.length cs,fL cash.length fun _=>10,bL cash.length fun _=>false,g,fL cash.length gs⟩
theorem AR {cash:List Int} {cs:List ClR} (h:SmallD cash cs) (i r:Nat):aP (aG cash.length cs) i r=aP cs i r:=by
 have h1:=d7 h.right i r;have h2:=d7 (mV h).right i r;rw[←(qy h.right).U,←h1] at h2
 exact_mod_cast h2
theorem kj {α:Type} {n i:Nat} (q:Nat→α) (d:α) (h:i<n):(fL n q).getD i d=q i:=by
 rw[af1,cQ q h];rfl
theorem OpF.at {cash:List Int} {cs:List ClR} (hs:SmallD cash cs) {g:Nat} {gs:Nat→Nat} {gg:Nat→Nat→Nat} {m:Mem} (h:OpF cash cs g gs gg (10*cash.length) m):(opA cash cs g gs).At m:=by
 refine⟨(y8 _ _).symm,bT _ _,xC _ _,bT _ _,?_,fun i hi=>?_⟩
 ·refine h.row.trans ?_
  congr 2
  exact bY fun i hi=>by
   show MV.ptr (228500+i) (gs i) 0=MV.ptr (228500+i) ((fL cash.length gs).getD i 0) 0;rw[kj gs 0 hi]
 ·have hi':i<cash.length:=hi
  refine (h.blk i hi').trans ?_;have e1:(opA cash cs g gs).gs.getD i 0=gs i:=kj gs 0 hi';rw[e1]
  congr 2
  have e2:(fL cash.length fun _=>(10:Int)).getD i 10=10:=kj _ _ hi';have e3:(bL cash.length fun _=>false).getD i false=false:=by rw[af1,yW _ hi'];rfl
  have e4:dH ((opA cash cs g gs).deb i)=iC (cash.getD i 0)::((fL 10 fun k=>aX (aG cash.length cs) i k).map clM++((fL 11 fun k=>aP (aG cash.length cs) i (k:Nat)).map iC++[iC ((fL cash.length fun _=>(10:Int)).getD i 10),bC ((bL cash.length fun _=>false).getD i false)])):=rfl;rw[e4,e2,e3];unfold opB
  have e5:(fL 10 fun k=>aX (aG cash.length cs) i k).map clM=fL 10 (cF cs gg (10*cash.length) i):=by
   unfold fL;rw[List.map_map];refine agF fun k hk=>?_
   have hk':=List.mem_range.1 hk
   show clM (aX (aG cash.length cs) i k)=cF cs gg (10*cash.length) i k;rw[sW cs hi' hk'];unfold cF;rw[if_pos (by omega)]
  have e6:(fL 11 fun k=>aP (aG cash.length cs) i (k:Nat))=fL 11 fun k=>aP cs i (k:Nat):=bY fun k _=>AR hs i k
  rw[e5,e6]
theorem DU {α:Type} (n:Nat) (q:Nat→α):fL (n+1) q=fL n q++[q n]:=by
 unfold fL;rw[agG,agH];rfl
structure OnQ (x:List Int × List ClR) (mem:Mem):Prop where
 sm:SmallD x.1 x.2
 no:NoK 228 mem
def Iz (x:List Int × List ClR) (mem:Mem):MV→Mem→Prop:=fun m mem'=>∃ g gs,m = .ref 228023 g 1 0 x.1.length∧(opA x.1 x.2 g gs).At mem'∧FrK 228 mem mem'
noncomputable def yv:List MV→Mem→Option (MV→Mem→Prop):=QQ (fun (x:List Int × List ClR) args mem=>args=[.dat (.sl (x.1.map aa)),.dat (.sl (x.2.map clL))]∧OnQ x mem) Iz
theorem CJ (cash:List Int) (cs:List ClR) (mem:Mem) (h:OnQ (cash,cs) mem):yv [.dat (.sl (cash.map aa)),.dat (.sl (cs.map clL))] mem=some (Iz (cash,cs) mem):=by
 refine IW (a:=(cash,cs)) ?_ ⟨rfl,h⟩;rintro⟨a,b⟩ ⟨c,d⟩ args mem ⟨e1,e2⟩ ⟨e3,e4⟩;rw[e1] at e3;simp only[List.cons.injEq,MV.dat.injEq,Data.sl.injEq,and_true] at e3;obtain⟨h1,h2⟩:=e3;rw[ah ak _ _ h1,ah f7 _ _ h2]
def noM (_:Nat):MV:=.nil
def zI (_:Nat):Int:=0
theorem Lp (T:Tab) (cash:List Int) (cs:List ClR) (mem:Mem) (ha:OnQ (cash,cs) mem) :
  wp T mf_clear_open.body (qU mf_clear_open.res (Iz (cash,cs) mem)) ⟨az [.dat (.sl (cash.map aa)),.dat (.sl (cs.map clL))],mem⟩:=by
 obtain⟨hs,hno⟩:=ha;dsimp only at hs;have hn:=hs.n5;have h23:mem 228023=none:=hno 228023 (by decide);refine aq ?_;simp only[mf_clear_open];simp only[go_sem,go_sem_proc,af4,h23,agd]
 refine af [1,12,13] [] (fun ((i,g,gs):Nat × Nat × (Nat→Nat)) tm m=>i≤cash.length∧tm 14 = .dat (.int .i64 i)∧tm 5 = .ref 228023 g 1 0 i∧m 228023=some (g,fL i fun j => .ptr (228500+j) (gs j) 0)∧(∀ j,j<i→m (228500+j)=some (gs j,opB (cash.getD j 0) noM zI 10 false))∧FrK 228 mem m) (fun (i,_)=>cash.length-i) (0,0,fun _=>0) (by
  refine⟨by omega,rfl,rfl,by simp [aB];rfl,fun j hj=>by omega,(FrK.refl _ _).upd (by decide)⟩) ?_
 intro vs ms hvs hms;simp only[go_sem,go_sem_proc,af4] at hvs hms;subst hvs hms;rintro⟨i,g,gs⟩ tm m hk-⟨hi,e14,e5,hrow,hblk,hfr⟩;simp only[go_sem,go_sem_proc,af4,List.cons.injEq] at hk;obtain⟨e1,e12,e13⟩:=hk;rcases af5 (i<cash.length) with hlt | hge
 ·have d1:decide ((i:Int)<(cash.length:Int))=true:=decide_eq_true (by omega)
  have w3:IntKind.i64.wrap ((i:Int)+1)=((i+1:Nat):Int):=by rw[al _ (by omega) (by omega)];omega
  obtain⟨y,hy⟩:∃ y,cash[i]?=some y:=⟨_,agx hlt⟩;have hyd:cash.getD i 0=y:=by rw[af1,hy];rfl
  have hrl:(fL i fun j=>MV.ptr (228500+j) (gs j) 0).length=i:=bT _ _;have htk:af6 i (fL i fun j=>MV.ptr (228500+j) (gs j) 0)=fL i fun j=>MV.ptr (228500+j) (gs j) 0:=agD (by omega)
  have l1:((i+1)*8≤140737488355328)=True:=eq_true (by omega);have l2:(i+1≤maxLen)=True:=eq_true (by unfold maxLen;omega);have l3:(i≤i)=True:=eq_true (agE _)
  have hap:jR 228023 g 1 i 8 1 [.ptr 228021 (cR (m 228021)) 0] (some (g,fL i fun j=>MV.ptr (228500+j) (gs j) 0))=some (.ref 228023 (g+1) 1 0 (i+1),some (228023,g+1,(fL i fun j=>MV.ptr (228500+j) (gs j) 0)++[.ptr 228021 (cR (m 228021)) 0])):=by
   unfold jR;dsimp only;rw[if_pos ⟨rfl,by rw[bT];omega,by omega,by unfold maxLen;omega,rfl⟩,af9,htk]
  generalize hRW:(fL i fun j=>MV.ptr (228500+j) (gs j) 0)=RW at *;simp only[go_sem,go_sem_proc,af4,e1,e5,e12,e13,e14,hrow,hy,hrl,hap,d1,aa,af9,agd,age]
  have hcx:(RW++[MV.ptr 228021 (cR (m 228021)) 0])[i]?=some (.ptr 228021 (cR (m 228021)) 0):=by
   rw[agl (by omega),hrl];simp
  have a1:(228021=228022)=False:=eq_false (by decide);refine rn (MoveS.mptr 228023 (g+1) _ i 228021 (cR (m 228021)) 0 _ (228500+i) cj hcx ((aH (by decide)).trans ((aH (by decide)).trans cj)) (by decide) (by show (228500+i:Nat)≠228021;omega) (by show (228500+i:Nat)≠228023;omega)) ?_;intro M2 hM2
  have hset:∀ p,(RW++[MV.ptr 228021 (cR (m 228021)) 0]).set i p=RW++[p]:=fun p=>by
   rw[ago _ _ (by omega),hrl,agI];rfl
  rw[hset] at hM2
  obtain⟨gi,hM23,hMi⟩:∃ gi,M2 228023=some (g+1,RW++[.ptr (228500+i) gi 0])∧M2 (228500+i)=some (gi,opB y noM zI 10 false):=by
   apply Exists.intro;apply And.intro
   rotate_left
   ·rw[hM2,aH (by show (228500+i:Nat)≠228023;omega),cj];rfl
   ·rw[hM2,cj]
  have hMo:∀ k:Nat,k≠228021→k≠228022→k≠228023→k≠228500+i→M2 k=m k:=fun k h1 h2 h3 h4=>by
   rw[hM2,aH h3,aH h4,aH h1,aH h3,aH h2,aH h1]
  clear hM2
  have hnx:RW++[MV.ptr (228500+i) gi 0]=fL (i+1) fun j => .ptr (228500+j) (if j=i then gi else gs j) 0:=by
   rw[DU,if_pos rfl,←hRW]
   congr 1
   exact bY fun j hj=>by rw[if_neg (by omega)]
  rw[hnx] at hM23;refine qI ?_
  repeat' (intro h<;>simp only[h,go_sem,go_sem_proc,af4,e1,e12,e13,e14,w3]<;>try refine qS ?_ ?_)
  refine⟨(i+1,g+1,fun j=>if j=i then gi else gs j),by dsimp only;omega,by dsimp only;omega,rfl,rfl,hM23,fun j hj=>?_,fun k hk=>?_⟩
  ·by_cases hji:j=i
   ·subst hji
    dsimp only;rw[if_pos rfl,hMi,hyd]
   ·dsimp only
    rw[if_neg hji,hMo (228500+j) (by omega) (by omega) (by omega) (by omega)];exact hblk j (by dsimp only at hj;omega)
  ·rw[hMo k (by omega) (by omega) (by omega) (by omega)]
   exact hfr k hk
 ·have d1:decide ((i:Int)<(cash.length:Int))=false:=decide_eq_false (by omega)
  obtain rfl:i=cash.length:=by omega
  simp only[go_sem,go_sem_proc,af4,e1,e5,e12,e13,e14,d1,agd];refine Qr T mem cash cs hs g gs (fun _ _=>0) _ _ ?_ ?_ ?_ ?_ ⟨hrow,fun j hj=>?_,fun j k hj hk hne=>absurd rfl hne⟩ hfr ?_
  all_goals first | (intro tm' m' gg k5 hat hfr') | (simp only[aW,agh,if_false,if_true,e1,e5];done) | skip
  ·rw[hblk j hj]
   congr 2
  obtain⟨m2,h1,h2,h3⟩:=OpF.all hn (10*cash.length) 0 m' (by omega) hat.toF;simp only[go_sem,go_sem_proc,af4];refine AA h1 ?_;refine qI ?_
  repeat' (intro h<;>simp only[h,go_sem,go_sem_proc,af4,k5]<;>try refine qS ?_ ?_)
  exact⟨_,rfl,g,gs,rfl,h2.at hs,fun k hk=>(h3 k hk).trans (hfr' k hk)⟩
def Lr (l:List ClR) (r:Int):Int:=bt l fun c=>if c.2.2.1<r then c.2.2.2 else 0
def Sr (l:List ClR) (r:Int):Int:=bt l fun c=>if c.2.2.1=r then c.2.2.2 else 0
theorem Ep (l:List ClR) (r:Int):Lr l (r+1)=Lr l r+Sr l r:=by
 unfold Lr Sr;rw[←uz];refine jl fun c _=>?_
 by_cases h1:c.2.2.1<r
 ·rw[if_pos h1,if_pos (by omega),if_neg (by omega)];omega
 ·by_cases h2:c.2.2.1=r
  ·rw[if_pos (by omega),if_neg h1,if_pos h2];omega
  ·rw[if_neg (by omega),if_neg h1,if_neg h2];rfl
noncomputable def cX (l:List ClR) (x:Rat) (k:Nat):Rat:=pos (x-((Lr l k:Int):Rat))
theorem OwnOK.Sr_nonneg {l:List ClR} (h:OwnOK l) (r:Int):0≤Sr l r∧Sr l r≤536870912:=h.bound fun c=>c.2.2.1=r
theorem OwnOK.Lr_nonneg {l:List ClR} (h:OwnOK l) (r:Int):0≤Lr l r∧Lr l r≤536870912:=h.bound fun c=>c.2.2.1<r
theorem BJ (l:List ClR) (x:Rat) (k:Nat):0≤cX l x k:=iv _
theorem Gw {l:List ClR} (h:OwnOK l) {x:Rat} (hx:0≤x):cX l x 0=x:=by
 have:Lr l (0:Nat)=0:=by
  unfold Lr
  have:(bt l fun c=>if c.2.2.1<((0:Nat):Int) then c.2.2.2 else 0)=bt l fun _=>0:=jl fun c hc=>by
   have:=(h.c c hc).2.2.2.2.1;rw[if_neg (by omega)]
  rw[this];clear h this
  induction l with
  | nil=>rfl
  | cons c l ih=>simp only[bt,ih];omega
 unfold cX;rw[this,lz]<;>grind
theorem AJ {l:List ClR} (h:OwnOK l) {x:Rat} {k:Nat} (he:((Sr l k:Int):Rat)≤cX l x k):cX l x (k+1)=cX l x k-((Sr l k:Int):Rat):=by
 have h1:=Ep l k;have h0:=(h.Sr_nonneg k).1;have h0':(0:Rat)≤((Sr l k:Int):Rat):=by exact_mod_cast h0
 unfold cX at *;rw[show ((k+1:Nat):Int)=(k:Int)+1 by omega,h1,agJ]
 by_cases hp:x-((Lr l k:Int):Rat)≤0
 ·have e1:=im hp
  rw[e1] at he ⊢;rw[im (by grind)];grind
 ·have e1:=lz (x:=x-((Lr l k:Int):Rat)) (by grind)
  rw[e1] at he ⊢;rw[lz (by grind)];grind
theorem HC {l:List ClR} {x:Rat} {k:Nat} (he:¬ ((Sr l k:Int):Rat)≤cX l x k):cX l x (k+1)=0:=by
 have h1:=Ep l k;have h2:=yz (x-((Lr l k:Int):Rat));unfold cX at *;rw[show ((k+1:Nat):Int)=(k:Int)+1 by omega,h1,agJ,im (by grind)]
section
variable {l:List ClR} (h:OwnOK l) {x:Rat} {k:Nat} {c:ClR} (hc:c∈l) (hk:c.2.2.1=k)
include h hc hk
theorem EY:aP l c.1 c.2.2.1=Lr l k∧SI l c.1 c.2.2.1=Sr l k:=by
 rw[hk];exact⟨(h.less hc k).symm,(h.same hc k).symm⟩
theorem Cr (he:((Sr l k:Int):Rat)≤cX l x k):cC l x c=(c.2.2.2:Rat):=by
 obtain⟨e1,e2⟩:=EY h hc hk;have hn:∀ c∈l,0≤c.2.2.2:=fun c hc=>(h.c c hc).2.2.2.2.2.2.1
 by_cases hp:x-((Lr l k:Int):Rat)≤0
 ·have h0:cX l x k=0:=im hp
  rw[h0] at he;have hS:Sr l k≤0:=by exact_mod_cast he
  have ha:=Aj hn hc;rw[e2] at ha;have ha0:=hn c hc;rw[vG hn hc (by rw[e1];exact hp),show c.2.2.2=0 by omega];rfl
 ·refine IJ ?_
  rw[e1,e2];unfold cX at he
  rwa [lz (by grind)] at he
theorem LP (he:¬ ((Sr l k:Int):Rat)≤cX l x k):cC l x c=(c.2.2.2:Rat)*cX l x k / ((Sr l k:Int):Rat):=by
 obtain⟨e1,e2⟩:=EY h hc hk;have hn:∀ c∈l,0≤c.2.2.2:=fun c hc=>(h.c c hc).2.2.2.2.2.2.1
 by_cases hp:x-((Lr l k:Int):Rat)≤0
 ·have h0:cX l x k=0:=im hp
  rw[vG hn hc (by rw[e1];exact hp),h0,Rat.mul_zero,Rat.div_def,Rat.zero_mul]
 ·have h0:cX l x k=x-((Lr l k:Int):Rat):=lz (by grind)
  rw[GZ (by rw[e1];grind) (by rw[e1,e2,←h0];grind),e1,e2,h0]
end
theorem Er {l:List ClR} {x:Rat} (h:qi l x) (k:Nat):szR 490 (cX l x k):=by
 have hL:=h.own.Lr_nonneg k;unfold cX pos
 split
 ·exact (show szR 1 0 from⟨by decide,by decide⟩).mono (by omega)
 ·rw[Rat.sub_eq_add_neg]
  exact (DR h.sz (oK (lE (z:=Lr l k) (b:=29) (by omega)))).mono (by omega)
noncomputable def rM:List Data→Option PRes:=FF (α:=Int × Int × Int) (fun (x,a,b)=>([.int .i64 x,.int .i64 a,.int .i64 b]:List Data)) (fun (x,a,b)=>some (.same (.bool (decide (a≤x)&&decide (x≤b)))))
theorem u9:∀ a b:Int × Int × Int,(fun (x,a,b)=>([.int .i64 x,.int .i64 a,.int .i64 b]:List Data)) a=(fun (x,a,b)=>([.int .i64 x,.int .i64 a,.int .i64 b]:List Data)) b→a=b:=by
  rintro⟨x1,a1,b1⟩ ⟨x2,a2,b2⟩ h;simp only[List.cons.injEq,Data.int.injEq,Data.agg.injEq,Data.sl.injEq,Data.bool.injEq,Data.str.injEq,Data.ptr.injEq,Data.tup.injEq,Prod.mk.injEq,true_and,and_true] at h ⊢
  first | exact h | simpa [Prod.ext_iff,and_assoc] using h | grind
@[go_sem] theorem Mq (x:Int) (a:Int) (b:Int):rM [.int .i64 x,.int .i64 a,.int .i64 b]=some (.same (.bool (decide (a≤x)&&decide (x≤b)))):=aZ u9 (x,a,b)
theorem FZ (T:Tab)  (x:Int) (a:Int) (b:Int) :
  wp T mf_rank_within.body (bG mf_rank_within.res (.same (.bool (decide (a≤x)&&decide (x≤b))))) ⟨az [.dat (.int .i64 x),.dat (.int .i64 a),.dat (.int .i64 b)],emp⟩:=by
 refine aq ?_;simp only[mf_rank_within];rcases c1:decide (a≤x)
 ·have c2:decide (x≥a)=false:=c1
  refine qI ?_
  repeat' (intro h<;>simp only[h,go_sem,go_sem_proc,af4,c1,c2,af2]<;>try refine qS ?_ ?_)
 ·have c2:decide (x≥a)=true:=c1
  refine qI ?_
  repeat' (intro h<;>simp only[h,go_sem,go_sem_proc,af4,c1,c2,aga]<;>try refine qS ?_ ?_)
noncomputable def uO:List Data→Option PRes:=FF (α:=List ClR) (fun (l:List ClR)=>([.sl (l.map clL)]:List Data)) (fun (l:List ClR)=>aI (OwnOK l) (.same (.bool true)))
theorem yX:∀ a b:List ClR,(fun (l:List ClR)=>([.sl (l.map clL)]:List Data)) a=(fun (l:List ClR)=>([.sl (l.map clL)]:List Data)) b→a=b:=by
  intro l1 l2 h;simp only[List.cons.injEq,Data.sl.injEq,and_true] at h;exact ah f7 _ _ h
@[go_sem] theorem Nh (l:List ClR) (hc:OwnOK l):uO [.sl (l.map clL)]=some (.same (.bool true)):=(aZ yX l).trans (ap hc _)
theorem Id (T:Tab) (l8:T fx=mkE rM) (l:List ClR) (hc:OwnOK l) :
  wp T mf_rank_right.body (bG mf_rank_right.res (.same (.bool true))) ⟨az [.dat (.sl (l.map clL))],emp⟩:=by
 refine aq ?_;simp only[mf_rank_right];have hl:=hc.len;simp only[go_sem,go_sem_proc,af4,l8,agd];refine af [0,5,6] [] (fun (i:Nat) tm mem=>i≤l.length∧tm 7 = .dat (.int .i64 i)) (fun i=>l.length-i) 0 (by refine⟨by omega,rfl⟩) ?_;intro vs ms hvs hms;simp only[go_sem,go_sem_proc,af4,l8,agd] at hvs hms;subst hvs hms;rintro i tm mem hk hm ⟨hi,h7⟩;simp only[go_sem,go_sem_proc,af4,l8,List.cons.injEq] at hk hm;obtain⟨h0,h5,h6⟩:=hk;rcases af5 (i<l.length) with hlt | hge
 ·have d1:decide ((i:Int)<(l.length:Int))=true:=decide_eq_true (by omega)
  have w3:IntKind.i64.wrap ((i:Int)+1)=((i+1:Nat):Int):=by rw[al _ (by omega) (by omega)];omega
  obtain⟨⟨c1,c2,c3,c4⟩,hx⟩:∃ c,l[i]?=some c:=⟨_,agx hlt⟩;obtain⟨⟨a1,a2,a3,a4⟩,hx0⟩:∃ c,l[0]?=some c:=⟨_,agx (by omega)⟩;have hcc:=hc.c _ (agy hx);have hone:=hc.one _ (agy hx) _ (agy hx0);dsimp only at hcc hone;subst hone;have q1:(decide (0≤c1)&&decide (c1≤59))=true:=by simp only[agK,decide_eq_true_eq];omega
  have q2:(decide (-1≤c2)&&decide (c2≤59))=true:=by simp only[agK,decide_eq_true_eq];omega
  have q3:(decide (0≤c3)&&decide (c3≤9))=true:=by simp only[agK,decide_eq_true_eq];omega
  have q4:(decide (0≤c4)&&decide (c4≤1000000000000000))=true:=by simp only[agK,decide_eq_true_eq];omega
  refine qI ?_
  repeat' (intro h<;>simp only[h,go_sem,go_sem_proc,af4,l8,h0,h5,h6,h7,hx,hx0,d1,w3,q1,q2,q3,q4,clL,bne,beq_self_eq_true,agc,agd,age]<;>try refine qS ?_ ?_)
  exact⟨i+1,by omega,by omega,rfl⟩
 ·have d1:decide ((i:Int)<(l.length:Int))=false:=decide_eq_false (by omega)
  have d2:decide ((l.length:Int)≤2000)=true:=decide_eq_true (by omega);refine qI ?_
  repeat' (intro h<;>simp only[h,go_sem,go_sem_proc,af4,l8,h0,h5,h6,h7,d1,d2,agd]<;>try refine qS ?_ ?_)
theorem Qf (T:Tab) {K:bP→St→Prop} {kk:List Todo} (l:List ClR) (hl:OwnOK l) (k:Nat) (v1 v6 v7:MV) (v37:MV) (x2 x7 x35:Option (Nat × List MV)) (tm:Nat→MV) (m:Mem)
  (e1:tm 1=v1) (e6:tm 6=v6) (e7:tm 7=v7) (e8:tm 8 = .dat (.int .i64 k)) (e9:tm 9 = .dat (.int .i64 0)) (e37:tm 37=v37) (e40:tm 40 = .dat (.sl (l.map clL))) (e41:tm 41 = .dat (.int .i64 l.length)) (e42:tm 42 = .dat (.int .i64 0)) (m2:m 249002=x2) (m7:m 249007=x7) (m35:m 249035=x35)
  (hK:∀ tm' m',tm' 1=v1→tm' 6=v6→tm' 7=v7→tm' 8 = .dat (.int .i64 k)→tm' 9 = .dat (.int .i64 (Sr l k))→tm' 37=v37→m' 249002=x2→m' 249007=x7→m' 249035=x35→kont T K kk (.exit 2) ⟨tm',m'⟩) :
  wp T (mf_rank_Split.body.sub [1,1,1,1,0,1,0,0,1,1,0,0,1,1,0,1,0]) (kont T K kk) ⟨tm,m⟩:=by
 simp only[mf_rank_Split,MCode.sub];have hb:=fun t=>hl.cs.sum (fun c=>c.2.2.1=(k:Int)) t
 have hlen:=hl.len;refine af [1,6,7,8,37,40,41] [249002,249007,249035] (fun (t:Nat) tm m=>t≤l.length∧tm 42 = .dat (.int .i64 t)∧tm 9 = .dat (.int .i64 (Sr (l.take t) k))) (fun t=>l.length-t) 0 (by refine⟨by omega,e42,e9⟩) ?_
 intro vs ms hvs hms;simp only[go_sem,go_sem_proc,af4,e1,e6,e7,e8,e37,e40,e41,m2,m7,m35] at hvs hms;subst hvs hms;clear e1 e6 e7 e8 e9 e37 e40 e41 e42 m2 m7 m35 tm m;rintro t tm m hk hm ⟨ht,e42,e9⟩;simp only[go_sem,go_sem_proc,af4,List.cons.injEq] at hk hm;obtain⟨e1,e6,e7,e8,e37,e40,e41⟩:=hk;obtain⟨m2,m7,m35⟩:=hm;rcases af5 (t<l.length) with hlt | hge
 ·have d1:decide ((t:Int)<(l.length:Int))=true:=decide_eq_true (by omega)
  have w3:IntKind.i64.wrap ((t:Int)+1)=((t+1:Nat):Int):=by rw[al _ (by omega) (by omega)];omega
  obtain⟨⟨c1,c2,c3,c4⟩,hx⟩:∃ c,l[t]?=some c:=⟨_,agx hlt⟩
  have hst:Sr (l.take (t+1)) k=Sr (l.take t) k+if c3=(k:Int) then c4 else 0:=by
   unfold Sr;rw[Fv hx]
  have h1:=hb t;have h2:=hb (t+1);have e1':Sr (l.take t) k=bt (l.take t) fun c=>if c.2.2.1=(k:Int) then c.2.2.2 else 0:=rfl
  have e2':Sr (l.take (t+1)) k=bt (l.take (t+1)) fun c=>if c.2.2.1=(k:Int) then c.2.2.2 else 0:=rfl
  rw[←e1'] at h1;rw[←e2'] at h2;rcases q:(c3==(k:Int))
  ·rw[if_neg (by have:=ne_of_beq_false q;omega),agp] at hst
   refine qI ?_
   repeat' (intro h<;>simp only[h,go_sem,go_sem_proc,af4,e1,e6,e7,e8,e9,e37,e40,e41,e42,m2,m7,m35,hx,d1,w3,q,clL,agd,age]<;>try refine qS ?_ ?_)
   exact⟨t+1,by omega,by omega,rfl,by rw[hst]⟩
  ·rw[if_pos (by have:=eq_of_beq q;omega)] at hst
   have wA:IntKind.i64.wrap (Sr (l.take t) k+c4)=Sr (l.take (t+1)) k:=by rw[hst,al _ (by omega) (by omega)]
   refine qI ?_
   repeat' (intro h<;>simp only[h,go_sem,go_sem_proc,af4,e1,e6,e7,e8,e9,e37,e40,e41,e42,m2,m7,m35,hx,d1,w3,q,wA,clL,agd,age]<;>try refine qS ?_ ?_)
   exact⟨t+1,by omega,by omega,rfl,rfl⟩
 ·have d1:decide ((t:Int)<(l.length:Int))=false:=decide_eq_false (by omega)
  rw[agD (by omega)] at e9;refine qI ?_
  repeat' (intro h<;>simp only[h,go_sem,go_sem_proc,af4,e1,e6,e7,e8,e9,e37,e40,e41,e42,d1]<;>try refine qS ?_ ?_)
  refine hK _ _ ?_ ?_ ?_ ?_ ?_ ?_ m2 m7 m35<;>simp only[aW,agh,if_false,e1,e6,e7,e8,e9,e37]
noncomputable def fT (l:List ClR) (x:Rat) (k t j:Nat):Option aM:=if (l.getD j zC).2.2.1<(k:Int)∨((l.getD j zC).2.2.1=(k:Int)∧j<t) then some (pw l x j) else none
theorem DG (l:List ClR) (h:OwnOK l) (x:Rat):(fL l.length fun j=>fT l x 0 0 j)=fL l.length fun _=>none:=bY fun j hj=>by
 have:=(h.c _ (agy (agx hj))).2.2.2.2.1;have e:l.getD j zC=l[j]:=by rw[af1,agx hj];rfl
 unfold fT;rw[e,if_neg (by omega)]
theorem CC (l:List ClR) (x:Rat) (k:Nat):(fL l.length fun j=>fT l x k l.length j)=fL l.length fun j=>fT l x (k+1) 0 j:=bY fun j hj=>by
 unfold fT
 by_cases h:(l.getD j zC).2.2.1<((k+1:Nat):Int)
 ·rw[if_pos (by omega),if_pos (.inl h)]
 ·rw[if_neg (by omega),if_neg (by omega)]
theorem I7 (l:List ClR) (h:OwnOK l) (x:Rat):(fL l.length fun j=>fT l x 10 0 j)=fL l.length fun j=>some (pw l x j):=bY fun j hj=>by
 have:=(h.c _ (agy (agx hj))).2.2.2.2.2.1;have e:l.getD j zC=l[j]:=by rw[af1,agx hj];rfl
 unfold fT;rw[e,if_pos (.inl (by omega))]
theorem oi {n:Int} (h:cn n):n7 [.int .i64 n]=some (.same (.agg (ae (aj (n:Rat))))):=Bq n h
theorem Qn (T:Tab) (ez:T c9=mkE n7) (dU:T dI=mkE lS) (f6:T gC=mkE px) {K:bP→St→Prop} {kk:List Todo} (l:List ClR) (x:Rat) (hsp:qi l x) (k:Nat) (G g7:Nat) (v1 v37:MV) (x2:Option (Nat × List MV)) (tm:Nat→MV) (m:Mem)
  (e1:tm 1=v1) (e6:tm 6 = .ref 249035 G 4 0 l.length) (e7:tm 7 = .ptr 249007 g7 0) (e8:tm 8 = .dat (.int .i64 k)) (e9:tm 9 = .dat (.int .i64 (Sr l k))) (e12:tm 12 = .dat (.bool (decide (((Sr l k:Int):Rat)≤cX l x k)))) (e37:tm 37=v37) (e60:tm 60 = .dat (.sl (l.map clL))) (e61:tm 61 = .dat (.int .i64 l.length)) (e62:tm 62 = .dat (.int .i64 0)) (m2:m 249002=x2) (m7:m 249007=some (g7,(ae (aj (cX l x k))).map .dat)) (m35:m 249035=some (G,ko oN (fL l.length fun j=>fT l x k 0 j)))
  (hK:∀ tm' m',tm' 1=v1→tm' 6 = .ref 249035 G 4 0 l.length→tm' 7 = .ptr 249007 g7 0→tm' 9 = .dat (.int .i64 (Sr l k))→tm' 12 = .dat (.bool (decide (((Sr l k:Int):Rat)≤cX l x k)))→tm' 37=v37→m' 249002=x2→m' 249007=some (g7,(ae (aj (cX l x k))).map .dat)→m' 249035=some (G,ko oN (fL l.length fun j=>fT l x (k+1) 0 j))→kont T K kk (.exit 4) ⟨tm',m'⟩) :
  wp T (mf_rank_Split.body.sub [1,1,1,1,0,1,0,0,1,1,0,0,1,1,1,1,0,1,0]) (kont T K kk) ⟨tm,m⟩:=by
 simp only[mf_rank_Split,MCode.sub];have how:=hsp.own;have hlen:=how.len;refine af [1,6,7,8,9,12,37,60,61] [249002,249007] (fun (t:Nat) tm m=>t≤l.length∧tm 62 = .dat (.int .i64 t)∧m 249035=some (G,ko oN (fL l.length fun j=>fT l x k t j))) (fun t=>l.length-t) 0 (by refine⟨by omega,e62,m35⟩) ?_;intro vs ms hvs hms;simp only[go_sem,go_sem_proc,af4,e1,e6,e7,e8,e9,e12,e37,e60,e61,m2,m7] at hvs hms;subst hvs hms;clear e1 e6 e7 e8 e9 e12 e37 e60 e61 e62 m2 m7 m35 tm m;rintro t tm m hk hm ⟨ht,e62,m35⟩;simp only[go_sem,go_sem_proc,af4,List.cons.injEq] at hk hm;obtain⟨e1,e6,e7,e8,e9,e12,e37,e60,e61⟩:=hk;obtain⟨m2,m7⟩:=hm;rcases af5 (t<l.length) with hlt | hge
 ·have d1:decide ((t:Int)<(l.length:Int))=true:=decide_eq_true (by omega)
  have w3:IntKind.i64.wrap ((t:Int)+1)=((t+1:Nat):Int):=by rw[al _ (by omega) (by omega)];omega
  obtain⟨⟨c1,c2,c3,c4⟩,hx⟩:∃ c,l[t]?=some c:=⟨_,agx hlt⟩;have hcm:=agy hx;have hc':=how.c _ hcm;dsimp only at hc';have hgd:l.getD t zC=(c1,c2,c3,c4):=by rw[af1,hx];rfl
  have hlen4:=DA (q:=fun j=>fT l x k t j) hlt;rcases q:(c3==(k:Int))
  ·have hne:c3≠(k:Int):=ne_of_beq_false q
   have hnx:(fL l.length fun j=>fT l x k (t+1) j)=fL l.length fun j=>fT l x k t j:=bY fun j _=>by
    unfold fT
    by_cases hj:j=t
    ·subst hj
     rw[hgd];dsimp only
     by_cases h1:c3<(k:Int)
     ·rw[if_pos (.inl h1),if_pos (.inl h1)]
     ·rw[if_neg (by omega),if_neg (by omega)]
    ·by_cases h1:(l.getD j zC).2.2.1<(k:Int)∨((l.getD j zC).2.2.1=(k:Int)∧j<t)
     ·rw[if_pos h1,if_pos (by omega)]
     ·rw[if_neg h1,if_neg (by omega)]
   refine qI ?_
   repeat' (intro h<;>simp only[h,go_sem,go_sem_proc,af4,e1,e6,e7,e8,e9,e12,e37,e60,e61,e62,m2,m7,hx,d1,w3,q,clL,bne,agb,agd,age]<;>try refine qS ?_ ?_)
   exact⟨t+1,by omega,by omega,rfl,by rw[hnx];exact m35⟩
  ·have hke:c3=(k:Int):=eq_of_beq q
   have hset:=fun a b c d=>DP (q:=fun j=>fT l x k t j) hlt a b c d
   have hnext:∀ F:aM,F=pw l x t→(fL l.length fun j=>if j=t then some F else fT l x k t j)=fL l.length fun j=>fT l x k (t+1) j:=by
    intro F hF;refine bY fun j _=>?_
    by_cases hj:j=t
    ·subst hj
     rw[if_pos rfl];unfold fT;rw[hgd,if_pos (.inr ⟨hke,by omega⟩),hF]
    ·rw[if_neg hj]
     unfold fT
     by_cases h1:(l.getD j zC).2.2.1<(k:Int)∨((l.getD j zC).2.2.1=(k:Int)∧j<t)
     ·rw[if_pos h1,if_pos (by omega)]
     ·rw[if_neg h1,if_neg (by omega)]
   have hsq:pw l x t=aj (cC l x (c1,c2,c3,c4)):=by unfold pw;rw[hgd]
   have iA:cn c4:=dT (by omega) (by omega);have fA:=oi iA;rcases k2:decide (((Sr l k:Int):Rat)≤cX l x k)
   ·have k2':=of_decide_eq_false k2
    have bS:=how.Sr_nonneg k;have iS:cn (Sr l k):=dT (by omega) (by omega);have fS:=oi iS;have zr:=Er hsp k;have zA:szR 29 ((c4:Int):Rat):=lE (by omega);have zS:szR 29 ((Sr l k:Int):Rat):=lE (by omega);have hS0:((Sr l k:Int):Rat)≠0:=by have:=BJ l x k;grind
    have f1:=Eu (fM iA) (du zr (by omega)) (ud zA zr (by omega));have f2:=MO (du (y6 zA zr) (by omega)) (fM iS) hS0 (A6 (y6 zA zr) zS (by omega));have hpay:=LP how hcm hke k2';dsimp only at hpay;have hwr:=fun a b c d=>DP (q:=fun j=>if j=t then some ((a,b),(c,d)) else fT l x k t j) hlt
    have hlen5:=fun a b c d=>DA (q:=fun j=>if j=t then some ((a,b),(c,d)) else fT l x k t j) hlt
    have hn:=hnext (aj (((c4:Int):Rat)*cX l x k / ((Sr l k:Int):Rat))) (by rw[hsq,hpay])
    have htwo:∀ F F':aM,(fL l.length fun j=>if j=t then some F else if j=t then some F' else fT l x k t j)=fL l.length fun j=>if j=t then some F else fT l x k t j:=fun F F'=>bY fun j _=>by
     by_cases hj:j=t
     ·rw[if_pos hj,if_pos hj]
     ·rw[if_neg hj,if_neg hj,if_neg hj]
    clear zr zA zS;generalize aj (((c4:Int):Rat)*cX l x k / ((Sr l k:Int):Rat))=G1 at *;generalize aj (((c4:Int):Rat)*cX l x k)=G2 at *;generalize aj ((Sr l k:Int):Rat)=G3 at *;generalize hG4:aj (cX l x k)=G4 at *;generalize aj ((c4:Int):Rat)=G5 at *;obtain⟨⟨g1,g2⟩,⟨g3,g4⟩⟩:=G1;obtain⟨⟨h1,h2⟩,⟨h3,h4⟩⟩:=G2;obtain⟨⟨i1,i2⟩,⟨i3,i4⟩⟩:=G3;obtain⟨⟨j1,j2⟩,⟨j3,j4⟩⟩:=G4;obtain⟨⟨n1,n2⟩,⟨n3,n4⟩⟩:=G5;simp only[ae,agL,agM] at fA fS f1 f2 m7;have hst:=hset n1 n2 n3 n4;have hst2:=hwr n1 n2 n3 n4 g1 g2 g3 g4;have hl5:=hlen5 n1 n2 n3 n4;rw[htwo,hn] at hst2;refine qI ?_
    repeat' (intro h<;>simp only[h,go_sem,go_sem_proc,af4,ez,dU,f6,e1,e6,e7,e8,e9,e12,e37,e60,e61,e62,m2,m7,m35,hx,d1,w3,hlt,q,k2,fA,fS,f1,f2,hlen4,hl5,hst,hst2,clL,agd,age,bne,beq_self_eq_true,agc,agb]<;>try refine qS ?_ ?_)
    exact⟨t+1,by omega,rfl,by omega,rfl,rfl⟩
   ·have hpay:=Cr how hcm hke (of_decide_eq_true k2)
    dsimp only at hpay;have hn:=hnext (aj ((c4:Int):Rat)) (by rw[hsq,hpay]);generalize aj ((c4:Int):Rat)=G5 at *;obtain⟨⟨n1,n2⟩,⟨n3,n4⟩⟩:=G5;simp only[ae] at fA;have hst:=hset n1 n2 n3 n4;rw[hn] at hst;refine qI ?_
    repeat' (intro h<;>simp only[h,go_sem,go_sem_proc,af4,ez,e1,e6,e7,e8,e9,e12,e37,e60,e61,e62,m2,m7,m35,hx,d1,w3,hlt,q,k2,fA,hlen4,hst,clL,agd,age,bne,beq_self_eq_true,agc,agb]<;>try refine qS ?_ ?_)
    exact⟨t+1,by omega,by omega,rfl,rfl⟩
 ·have d1:decide ((t:Int)<(l.length:Int))=false:=decide_eq_false (by omega)
  obtain rfl:t=l.length:=by omega
  rw[CC] at m35;refine qI ?_
  repeat' (intro h<;>simp only[h,go_sem,go_sem_proc,af4,e1,e6,e7,e8,e9,e12,e37,e60,e61,e62,d1]<;>try refine qS ?_ ?_)
  refine hK _ _ ?_ ?_ ?_ ?_ ?_ ?_ m2 m7 m35<;>simp only[aW,agh,if_false,e1,e6,e7,e9,e12,e37]
noncomputable def tB:List Data→Option PRes:=FF (α:=Rat × (List ClR)) (fun (x,l)=>([.agg (ae (aj x)),.sl (l.map clL)]:List Data)) (fun (x,l)=>aI (qi l x) (.same (.tup [.sl ((l.map fun c=>aj (cC l x c)).map ae),.int .i64 0])))
theorem xN:∀ a b:Rat × (List ClR),(fun (x,l)=>([.agg (ae (aj x)),.sl (l.map clL)]:List Data)) a=(fun (x,l)=>([.agg (ae (aj x)),.sl (l.map clL)]:List Data)) b→a=b:=by
  rintro⟨x1,l1⟩ ⟨x2,l2⟩ h;simp only[List.cons.injEq,Data.sl.injEq,Data.agg.injEq,and_true] at h;exact Prod.ext (AE (dJ _ _ h.1)) (ah f7 _ _ h.2)
@[go_sem] theorem zZ (x:Rat) (l:List ClR) (hc:qi l x):tB [.agg (ae (aj x)),.sl (l.map clL)]=some (.same (.tup [.sl ((l.map fun c=>aj (cC l x c)).map ae),.int .i64 0])):=(aZ xN (x,l)).trans (ap hc _)
theorem Kp (T:Tab) (aK:T aY=mkE fQ) (au:T aV=mkE cV) (ez:T c9=mkE n7) (gq:T lw=mkE uO) (dU:T dI=mkE lS) (f6:T gC=mkE px) (eH:T dY=mkE mI) (x:Rat) (l:List ClR) (hc:qi l x) :
  wp T mf_rank_Split.body (bG mf_rank_Split.res (.same (.tup [.sl ((l.map fun c=>aj (cC l x c)).map ae),.int .i64 0]))) ⟨az [.dat (.agg (ae (aj x))),.dat (.sl (l.map clL))],emp⟩:=by
 refine aq ?_;simp only[mf_rank_Split];have hcc:=hc;obtain⟨how,hx0,hxs⟩:=hc;have hlim:=du hxs (by omega);have hlen:=how.len;have hrt:=md hlim;have hcx:=eT hlim (fM Bj);have hcd:decide (jp x ((0:Int):Rat)<0)=false:=by rw[lU];exact decide_eq_false (by have:((0:Int):Rat)=0:=rfl;grind)
 have ho:=eC hlim;have hsp:=Gm l x;have f0:=oi Bj;have hr0:=Gw how hx0;have hps:=DG l how x;have hz:=vW l.length;rw[←hps] at hz;have hmk:(64*l.length≤140737488355328)=True:=eq_true (by omega);have hmk2:(l.length≤maxLen)=True:=eq_true (by unfold maxLen;omega);generalize hF:aj x=F at *;generalize hZ:aj ((0:Int):Rat)=Z at *;obtain⟨⟨a1,a2⟩,⟨a3,a4⟩⟩:=F;obtain⟨⟨z1,z2⟩,⟨z3,z4⟩⟩:=Z;simp only[ae] at f0 hcx;simp only[go_sem,go_sem_proc,af4,aK,au,ez,gq,dU,f6,eH,ae,hrt,ho.1,ho.2,f0,hcx,hcd,how,hmk,hmk2,hz,agd,agc,agb];refine af [1,6,7] [249002] (fun (k:Nat) tm m=>k≤10∧tm 37 = .dat (.int .i64 k)∧m 249007=some (0,(ae (aj (cX l x k))).map .dat)∧m 249035=some (0,ko oN (fL l.length fun j=>fT l x k 0 j))) (fun k=>10-k) 0 (by refine⟨by omega,rfl,by rw[hr0,hF];rfl,rfl⟩) ?_
 intro vs ms hvs hms;simp only[go_sem,go_sem_proc,af4,aK,au,ez,gq,dU,f6,eH,ae,agd] at hvs hms;subst hvs hms;rintro k tm m hk hm ⟨hk10,e37,m7,m35⟩;simp only[go_sem,go_sem_proc,af4,aK,au,ez,gq,dU,f6,eH,List.cons.injEq] at hk hm;obtain⟨e1,e6,e7⟩:=hk;rcases af5 (k<10) with hlt | hge
 ·have d1:decide ((k:Int)<10)=true:=decide_eq_true (by omega)
  have w3:IntKind.i64.wrap ((k:Int)+1)=((k+1:Nat):Int):=by rw[al _ (by omega) (by omega)];omega
  simp only[go_sem,go_sem_proc,af4,aK,au,ez,gq,dU,f6,eH,e1,e6,e7,e37,hm,d1,agd];refine Qf T l how k (.dat (.sl (l.map clL))) (.ref 249035 0 4 0 l.length) (.ptr 249007 0 0) (.dat (.int .i64 k)) _ (some (0,(ae (aj (cX l x k))).map .dat)) (some (0,ko oN (fL l.length fun j=>fT l x k 0 j))) _ _ ?_ ?_ ?_ ?_ ?_ ?_ ?_ ?_ ?_ hm m7 m35 ?_
  all_goals first | (intro tm' m' k1 k6 k7 k8 k9 k37 q2 q7 q35) | (simp only[aW,agh,if_false,if_true,e1,e6,e7,e37];done)
  have bS:=how.Sr_nonneg k;have iS:cn (Sr l k):=dT (by omega) (by omega);have fS:=oi iS;have zr:=Er hcc k;have lr:=du zr (by omega);have zS:szR 29 ((Sr l k:Int):Rat):=lE (by omega);have hcp:=eT lr (fM iS);have hge':decide (jp (cX l x k) ((Sr l k:Int):Rat)≥0)=decide (((Sr l k:Int):Rat)≤cX l x k):=sd;have hsub:=xV lr (fM iS) (jO zr (oK zS) (by omega));have hL2:=fun (K:bP→St→Prop) (kk:List Todo) G g7 v1 v37 x2 tm m=>Qn T ez dU f6 (K:=K) (kk:=kk) l x hcc k G g7 v1 v37 x2 tm m
  have hen:((Sr l k:Int):Rat)≤cX l x k→aj (cX l x (k+1))=aj (cX l x k-((Sr l k:Int):Rat)):=fun h=>by rw[AJ how h]
  have hno:¬ ((Sr l k:Int):Rat)≤cX l x k→aj (cX l x (k+1))=((z1,z2),(z3,z4)):=fun h=>by rw[HC h,←hZ];rfl
  generalize aj (cX l x k-((Sr l k:Int):Rat))=G1 at *;generalize hG2:aj (cX l x k)=G2 at *;generalize aj ((Sr l k:Int):Rat)=G3 at *;generalize hG4:aj (cX l x (k+1))=G4 at *;obtain⟨⟨g1,g2⟩,⟨g3,g4⟩⟩:=G1;obtain⟨⟨h1,h2⟩,⟨h3,h4⟩⟩:=G2;obtain⟨⟨i1,i2⟩,⟨i3,i4⟩⟩:=G3;simp only[ae,agL,agM] at fS hcp hsub q7;simp only[go_sem,go_sem_proc,af4,aK,au,ez,gq,dU,f6,eH,k1,k6,k7,k8,k9,k37,q2,q7,q35,fS,hcp,hge',agd];refine hL2 _ _ 0 0 (.dat (.sl (l.map clL))) (.dat (.int .i64 k)) _ _ _ ?_ ?_ ?_ ?_ ?_ ?_ ?_ ?_ ?_ ?_ q2 ?_ q35 ?_
  all_goals first | (intro tm2 m2 j1 j6 j7 j9 j12 j37 r2 r7 r35) | (simp only[aW,agh,if_false,if_true,k1,k6,k7,k8,k9,k37];done) | (rw[q7];rfl)
  simp only[ae,agL,agM] at r7;clear hL2;rcases q:decide (((Sr l k:Int):Rat)≤cX l x k)
  ·have he:=hno (of_decide_eq_false q)
   rw[q] at j12;simp only[go_sem,go_sem_proc,af4,aK,au,ez,gq,dU,f6,eH,j1,j6,j7,j9,j12,j37,r2,r7,r35,f0,w3,agb,agc]
   repeat' (first|refine qS ?_ ?_|fail)<;>intro h<;>simp only[h,go_sem,go_sem_proc,af4,aK,au,ez,gq,dU,f6,eH,j1,j6,j7,j9,j12,j37,r2,r7,r35,f0,w3,agb,agc]
   exact⟨k+1,by omega,by omega,rfl,by rw[hG4,he];rfl,rfl⟩
  ·have he:=hen (of_decide_eq_true q)
   rw[q] at j12;simp only[go_sem,go_sem_proc,af4,aK,au,ez,gq,dU,f6,eH,j1,j6,j7,j9,j12,j37,r2,r7,r35,fS,hsub,w3,bne,beq_self_eq_true,agb,agc]
   repeat' (first|refine qS ?_ ?_|fail)<;>intro h<;>simp only[h,go_sem,go_sem_proc,af4,aK,au,ez,gq,dU,f6,eH,j1,j6,j7,j9,j12,j37,r2,r7,r35,fS,hsub,w3,bne,beq_self_eq_true,agb,agc]
   exact⟨k+1,by omega,by omega,rfl,by rw[hG4,he];rfl,rfl⟩
 ·have d1:decide ((k:Int)<10)=false:=decide_eq_false (by omega)
  obtain rfl:k=10:=by omega
  rw[I7 l how x,hsp,An] at m35;have hfz:=fun (K:St→Prop) (st:St)=>cu (K:=K) (st:=st) cr 6 249035 0 (l.map fun c=>aj (cC l x c))
  rw[agd] at hfz;simp only[go_sem,go_sem_proc,af4,aK,au,ez,gq,dU,f6,eH,e1,e6,e7,e37,hm,d1,m35,hfz,agd]
  repeat' (first|refine qS ?_ ?_|fail)<;>intro h<;>simp only[h,go_sem,go_sem_proc,af4,aK,au,ez,gq,dU,f6,eH,e1,e6,e7,e37,hm,d1,m35,hfz,agd]
theorem sL {kx gx n:Nat} (key:Nat→Nat) (q':Nat→MV) (hkx:∀ i,i<n→key i≠kx) (hkk:∀ i j,i<n→j<n→key i=key j→i=j):∀ r d (q:Nat→MV) (m:Mem),d+r=n→m kx=some (gx,fL n q)→(∀ i,i<d→q i=q' i) →
  (∀ i,d≤i→i<n→q i=q' i∨∃ g sz len cs x,q i = .ref (key i) g sz 0 len∧m (key i)=some (g,cs)∧(∀ m2:Mem,m2 (key i)=some (g,cs)→toD 1 m2 (.ref (key i) g sz 0 len)=some x)∧q' i = .dat x) →
  ∃ m',Moves m m'∧m' kx=some (gx,fL n q')∧∀ k:Nat,k≠kx→(∀ i,i<n→k≠key i)→m' k=m k
 | 0,d,q,m,hd,h1,h2,_=>⟨m,.refl m,by rw[h1,bY fun i hi=>h2 i (by omega)],fun _ _ _=>rfl⟩
 | r+1,d,q,m,hd,h1,h2,h3=>by
  rcases h3 d (agE _) (by omega) with he | ⟨g,sz,len,cs,x,e1,e2,e3,e4⟩
  ·obtain⟨m',k1,k2,k3⟩:=sL key q' hkx hkk r (d+1) q m (by omega) h1 (fun i hi=>by
    by_cases hid:i=d
    ·rw[hid];exact he
    ·exact h2 i (by omega)) fun i hi hin=>h3 i (by omega) hin
   exact⟨m',k1,k2,k3⟩
  ·have hdn:d<n:=by omega
   have hget:(fL n q)[d]?=some (.ref (key d) g sz 0 len):=by rw[cQ q hdn,e1]
   have hstep:=MoveS.mfrz kx gx _ d (key d) g sz 0 len cs x h1 hget e2 (hkx d hdn) (e3 m e2);have hnew:aB (kill m (key d)) kx gx ((fL n q).set d (.dat x)) kx=some (gx,fL n fun j=>if j=d then .dat x else q j):=by rw[cj,nk]
   obtain⟨m',k1,k2,k3⟩:=sL key q' hkx hkk r (d+1) (fun j=>if j=d then .dat x else q j) _ (by omega) hnew (fun i hi=>by
    by_cases hid:i=d
    ·rw[if_pos hid,hid,e4]
    ·rw[if_neg hid];exact h2 i (by omega)) fun i hi hin=>by
     rw[if_neg (by omega)];rcases h3 i (by omega) hin with he | ⟨g',sz',len',cs',x',f1,f2,f3,f4⟩
     ·exact .inl he
     ·refine .inr ⟨g',sz',len',cs',x',f1,?_,f3,f4⟩
      rw[aH (hkx i hin)];unfold kill;rw[aH fun hh=>by have:=hkk i d hin hdn hh;omega]
      exact f2
   refine⟨m',.step hstep k1,k2,fun k hk hki=>?_⟩
   rw[k3 k hk hki,aH hk];unfold kill;rw[aH (hki d hdn)]
def plc (l:List ClR) (i:Nat):List Nat:=(agN l.length).filter fun j=>(l.getD j zC).1==(i:Int)
theorem y7 (l:List ClR) (c:ClR) (i:Nat):plc (l++[c]) i=if c.1=(i:Int) then plc l i++[l.length] else plc l i:=by
 unfold plc;have e1:(l++[c]).getD l.length zC=c:=by rw[af1,agl (agE _),agI];rfl
 have e2:(agN l.length).filter (fun j=>((l++[c]).getD j zC).1==(i:Int))=(agN l.length).filter fun j=>(l.getD j zC).1==(i:Int):=List.filter_congr fun j hj=>by
  rw[af1,agk (List.mem_range.1 hj),←af1]
 rw[agv,agO,agG,agq,e2]
 by_cases h:c.1=(i:Int)
 ·rw[if_pos h,agr (by rw[e1];simpa using h),ags]
 ·rw[if_neg h,agt (by rw[e1];simpa using h),ags,agu]
theorem plc_mem {l:List ClR} {i j:Nat}:j∈plc l i↔j<l.length∧(l.getD j zC).1=(i:Int):=by
 unfold plc;rw[List.mem_filter,List.mem_range,beq_iff_eq]
theorem xR (l:List ClR) (c:ClR) (i:Nat):dm (l++[c]) i=if c.1=(i:Int) then dm l i++[c] else dm l i:=by
 unfold dm;rw[agq]
 by_cases h:c.1=(i:Int)
 ·rw[if_pos h,agr (by simpa using h),ags]
 ·rw[if_neg h,agt (by simpa using h),ags,agu]
theorem E5 (l:List ClR) (i:Nat):dm l i=(plc l i).map fun j=>l.getD j zC:=by
 have:∀ n (l:List ClR),l.length=n→dm l i=(plc l i).map fun j=>l.getD j zC:=by
  intro n
  induction n with
  | zero =>
   intro l hl;have:l=[]:=List.length_eq_zero_iff.1 hl;subst this;rfl
  | succ n ih =>
   intro l hl;rcases List.eq_nil_or_concat l with h0 | ⟨l',c,rfl⟩
   ·subst h0;cases hl
   ·rw[List.concat_eq_append] at *
    simp only[agv,agO] at hl;have e1:(l'++[c]).getD l'.length zC=c:=by rw[af1,agl (agE _),agI];rfl
    have e2:(plc l' i).map (fun j=>(l'++[c]).getD j zC)=(plc l' i).map fun j=>l'.getD j zC:=agF fun j hj=>by
     rw[af1,agk (plc_mem.1 hj).1,←af1]
    rw[xR,y7]
    by_cases h:c.1=(i:Int)
    ·rw[if_pos h,if_pos h,agH,e2,ih l' (by omega)]
     show _=_++[(l'++[c]).getD l'.length zC];rw[e1]
    ·rw[if_neg h,if_neg h,e2,ih l' (by omega)]
 exact this _ l rfl
theorem sJ (l:List ClR) (i:Nat):(plc l i).length=(dm l i).length:=by rw[E5,agd]
theorem O1 (l:List ClR) (i:Nat):(plc l i).length≤l.length:=by
 unfold plc;exact agB (agC _ _) (by rw[List.length_range];exact agE _)
def pc (l:List ClR) (gc:Nat→Nat) (i:Nat):MV:=if dm l i=[] then .nil else .ref (233600+i) (gc i) 4 0 (dm l i).length
def pp (l:List ClR) (gp:Nat→Nat) (i:Nat):MV:=if dm l i=[] then .nil else .ref (233700+i) (gp i) 1 0 (dm l i).length
structure PyAt (n:Nat) (l:List ClR) (gc gp:Nat→Nat) (m:Mem):Prop where
 r1:m 233019=some (0,fL n (pc l gc))
 r2:m 233022=some (0,fL n (pp l gp))
 k1:∀ i,i<n→dm l i≠[]→m (233600+i)=some (gc i,ay clL (dm l i))
 k2:∀ i,i<n→dm l i≠[]→m (233700+i)=some (gp i,ay gJ (plc l i))
theorem PyAt.next {n:Nat} {l:List ClR} {gc gp:Nat→Nat} {m m':Mem} (h:PyAt n l gc gp m) (hn:n≤5) {c1:Nat} {c2 c3 c4:Int} (g1 g2:Nat)
  (h1:m' 233019=some (0,fL n fun i=>if i=c1 then .ref (233600+c1) g1 4 0 ((dm l c1).length+1) else pc l gc i)) (h2:m' 233022=some (0,fL n fun i=>if i=c1 then .ref (233700+c1) g2 1 0 ((dm l c1).length+1) else pp l gp i))
  (h3:m' (233600+c1)=some (g1,ay clL (dm l c1++[((c1:Int),c2,c3,c4)]))) (h4:m' (233700+c1)=some (g2,ay gJ (plc l c1++[l.length])))
  (ho:∀ i,i<n→i≠c1→m' (233600+i)=m (233600+i)∧m' (233700+i)=m (233700+i)):PyAt n (l++[((c1:Int),c2,c3,c4)]) (fun i=>if i=c1 then g1 else gc i) (fun i=>if i=c1 then g2 else gp i) m':=by
 have eo:∀ i:Nat,i≠c1→dm (l++[((c1:Int),c2,c3,c4)]) i=dm l i:=fun i hi=>by rw[xR,if_neg (by show ¬ ((c1:Int)=(i:Int));omega)]
 have ep:∀ i:Nat,i≠c1→plc (l++[((c1:Int),c2,c3,c4)]) i=plc l i:=fun i hi=>by rw[y7,if_neg (by show ¬ ((c1:Int)=(i:Int));omega)]
 have so:dm (l++[((c1:Int),c2,c3,c4)]) c1=dm l c1++[((c1:Int),c2,c3,c4)]:=by rw[xR,if_pos rfl]
 have sp:plc (l++[((c1:Int),c2,c3,c4)]) c1=plc l c1++[l.length]:=by rw[y7,if_pos rfl]
 refine⟨?_,?_,fun i hi hne=>?_,fun i hi hne=>?_⟩
 ·rw[h1]
  congr 2
  refine bY fun i hi=>?_
  unfold pc
  by_cases hc:i=c1
  ·subst hc
   rw[so,if_pos rfl,if_neg (by simp),agv];dsimp only;rw[if_pos rfl];rfl
  ·rw[eo i hc,if_neg hc]
   dsimp only;rw[if_neg hc]
 ·rw[h2]
  congr 2
  refine bY fun i hi=>?_
  unfold pp
  by_cases hc:i=c1
  ·subst hc
   rw[so,if_pos rfl,if_neg (by simp),agv];dsimp only;rw[if_pos rfl];rfl
  ·rw[eo i hc,if_neg hc]
   dsimp only;rw[if_neg hc]
 ·by_cases hc:i=c1
  ·subst hc
   rw[if_pos rfl,so];exact h3
  ·rw[eo i hc] at hne ⊢
   rw[if_neg hc,(ho i hi hc).1];exact h.k1 i hi hne
 ·by_cases hc:i=c1
  ·subst hc
   rw[if_pos rfl,sp];exact h4
  ·rw[eo i hc] at hne
   rw[ep i hc,if_neg hc,(ho i hi hc).2];exact h.k2 i hi hne
structure xA (cs:List ClR) (h:List Rat):Prop where
 len:cs.length≤12
 n:h.length≤5
 c:∀ c∈cs,0≤c.1∧c.1<h.length ∧ -1≤c.2.1∧c.2.1<60∧0≤c.2.2.1∧c.2.2.1<10∧0≤c.2.2.2∧c.2.2.2≤33554432
 x:∀ x∈h,0≤x∧szR 460 x
theorem B7 {K:St→Prop} {tm:Nat→MV} {mem mem1 mem':Mem} (h:MoveS mem mem1) (h2:MoveS mem1 mem') (hK:∀ M,M=mem'→K ⟨tm,M⟩):dP K ⟨tm,mem⟩ .many:=⟨mem',.step h (.step h2 (.refl _)),hK _ rfl⟩
theorem Qo (T:Tab) {K:bP→St→Prop} {kk:List Todo} (cs:List ClR) (h:List Rat) (hp:xA cs h) (v1:MV) (tm:Nat→MV) (m:Mem)
  (e0:tm 0 = .dat (.sl (cs.map clL))) (e1:tm 1=v1) (e6:tm 6 = .ref 233019 0 1 0 h.length) (e7:tm 7 = .ref 233022 0 1 0 h.length) (e23:tm 23 = .dat (.sl (cs.map clL))) (e24:tm 24 = .dat (.int .i64 cs.length)) (e25:tm 25 = .dat (.int .i64 0)) (m57:m 233057=none) (gc gp:Nat→Nat) (hat:PyAt h.length [] gc gp m)
  (hK:∀ tm' m' gc' gp',tm' 0 = .dat (.sl (cs.map clL))→tm' 1=v1→tm' 6 = .ref 233019 0 1 0 h.length→tm' 7 = .ref 233022 0 1 0 h.length→m' 233057=none→PyAt h.length cs gc' gp' m'→kont T K kk (.exit 0) ⟨tm',m'⟩) :
  wp T (mf_clear_payments.body.sub [1,1,1,0,1,0]) (kont T K kk) ⟨tm,m⟩:=by
 simp only[mf_clear_payments,MCode.sub];have hn:=hp.n;have h12:=hp.len;refine af [0,1,6,7,23,24] [233057] (fun ((t,gc,gp):Nat × (Nat→Nat) × (Nat→Nat)) tm m=>t≤cs.length∧tm 25 = .dat (.int .i64 t)∧PyAt h.length (cs.take t) gc gp m) (fun (t,_)=>cs.length-t) (0,gc,gp) (by refine⟨by omega,e25,by rw[agw];exact hat⟩) ?_;intro vs ms hvs hms;simp only[go_sem,go_sem_proc,af4,e0,e1,e6,e7,e23,e24,m57] at hvs hms;subst hvs hms;clear e0 e1 e6 e7 e23 e24 e25 m57 hat tm m;rintro⟨t,gc,gp⟩ tm m hk m57 ⟨ht,e25,hat⟩;simp only[go_sem,go_sem_proc,af4,List.cons.injEq] at hk m57;obtain⟨e0,e1,e6,e7,e23,e24⟩:=hk;rcases af5 (t<cs.length) with hlt | hge
 ·have d1:decide ((t:Int)<(cs.length:Int))=true:=decide_eq_true (by omega)
  have w3:IntKind.i64.wrap ((t:Int)+1)=((t+1:Nat):Int):=by rw[al _ (by omega) (by omega)];omega
  obtain⟨⟨c1,c2,c3,c4⟩,hx⟩:∃ c,cs[t]?=some c:=⟨_,agx hlt⟩;have hrc:=hp.c _ (agy hx);dsimp only at hrc;obtain⟨c1,rfl⟩:∃ k:Nat,c1=(k:Int):=⟨c1.toNat,by omega⟩
  have htk:cs.take (t+1)=cs.take t++[((c1:Int),c2,c3,c4)]:=by rw[agz,hx];rfl
  have htl:(cs.take t).length=t:=by rw[agA];omega
  generalize hl:cs.take t=l at *;have hc1:c1<h.length:=by omega
  have r1:=hat.r1;have r2:=hat.r2;have g1:=nn (cQ (pc l gc) hc1);have g2:=nn (cQ (pp l gp) hc1);have n1:(fL h.length (pc l gc)).length=h.length:=bT _ _;have n2:(fL h.length (pp l gp)).length=h.length:=bT _ _;have s1:=fun v=>(ld (l:=fL h.length (pc l gc)) (k:=c1) (v:=v) (by rw[bT];exact hc1)).trans (nk (pc l gc) v)
  have s2:=fun v=>(ld (l:=fL h.length (pp l gp)) (k:=c1) (v:=v) (by rw[bT];exact hc1)).trans (nk (pp l gp) v)
  have l1:c1+1≤h.length:=by omega
  have hml:(1≤maxLen)=True:=eq_true (by decide);have hol:(dm l c1).length≤12:=agB (agC _ _) (by omega);have hpl:=sJ l c1;have E1:∀ i,i<h.length→233600+i≠233009∧233600+i≠233019∧233600+i≠233022∧233600+i≠233043∧233600+i≠233051∧233600+i≠233700+c1∧233600+i≠233057:=fun i hi=>by omega
  have E2:∀ i,i<h.length→233700+i≠233009∧233700+i≠233019∧233700+i≠233022∧233700+i≠233043∧233700+i≠233051∧233700+i≠233600+c1∧233700+i≠233057:=fun i hi=>by omega
  by_cases hce:dm l c1=[]
  ·have c1m:pc l gc c1 = .nil:=by unfold pc;rw[if_pos hce]
   have c2m:pp l gp c1 = .nil:=by unfold pp;rw[if_pos hce]
   have hpe:plc l c1=[]:=List.length_eq_zero_iff.1 (by rw[hpl,hce];rfl);rw[c1m] at g1;rw[c2m] at g2;simp only[go_sem,go_sem_proc,af4,hml,e0,e1,e6,e7,e23,e24,e25,hx,r1,r2,g1,g2,n1,n2,s1,s2,d1,l1,hc1,clL,af9,agd,age];obtain⟨f11,f12,f13,f14,f15,f16,f17⟩:=E1 c1 hc1;obtain⟨f21,f22,f23,f24,f25,f26,f27⟩:=E2 c1 hc1
   refine B7 (MoveS.mref 233019 0 _ c1 233043 (cR (m 233043)) 4 0 1 _ (233600+c1) ((aH (by decide)).trans cj) ((cQ _ hc1).trans (by rw[if_pos rfl])) ((aH (by decide)).trans ((aH (by decide)).trans ((aH (by decide)).trans cj))) (by decide) f14 f12)
    (MoveS.mref 233022 0 _ c1 233051 (cR (m 233051)) 1 0 1 _ (233700+c1) ((aH (by decide)).trans ((aH (Ne.symm f13)).trans ((aH (by decide)).trans cj))) ((cQ _ hc1).trans (by rw[if_pos rfl])) ((aH (by decide)).trans ((aH (Ne.symm f15)).trans ((aH (by decide)).trans ((aH (by decide)).trans ((aH (by decide)).trans cj))))) (by decide) f25 f23) ?_
   intro M2 hM2
   have hMo:∀ k:Nat,k≠233009→k≠233019→k≠233022→k≠233043→k≠233051→k≠233600+c1→k≠233700+c1→M2 k=m k:=fun k h9 h19 h22 h43 h51 h36 h37=>by
    rw[hM2,aH h22,aH h37,aH h51,aH h19,aH h36,aH h43,aH h22,aH h19,aH h51,aH h43,aH h9,aH h9]
   obtain⟨ga,hA1,hA2⟩:∃ ga,M2 233019=some (0,fL h.length fun i=>if i=c1 then .ref (233600+c1) ga 4 0 ((dm l c1).length+1) else pc l gc i)∧M2 (233600+c1)=some (ga,ay clL (dm l c1++[((c1:Int),c2,c3,c4)])):=by
    rw[hce];apply Exists.intro;apply And.intro
    rotate_left
    ·rw[hM2,aH f13,aH f16,aH f15,aH f12,cj];rfl
    ·rw[hM2,aH (by decide),aH (Ne.symm f22),aH (by decide),cj,nk]
     congr 2
     refine bY fun i _=>?_
     by_cases hi:i=c1
     ·rw[if_pos hi,if_pos hi];rfl
     ·rw[if_neg hi,if_neg hi,if_neg hi]
   obtain⟨gb,hB1,hB2⟩:∃ gb,M2 233022=some (0,fL h.length fun i=>if i=c1 then .ref (233700+c1) gb 1 0 ((dm l c1).length+1) else pp l gp i)∧M2 (233700+c1)=some (gb,ay gJ (plc l c1++[l.length])):=by
    rw[hce,hpe,htl];apply Exists.intro;apply And.intro
    rotate_left
    ·rw[hM2,aH f23,cj];rfl
    ·rw[hM2,cj,nk]
     congr 2
     refine bY fun i _=>?_
     by_cases hi:i=c1
     ·rw[if_pos hi,if_pos hi];rfl
     ·rw[if_neg hi,if_neg hi,if_neg hi]
   have hfin:=hat.next (m':=M2) hn ga gb hA1 hB1 hA2 hB2 fun i hi hne=>⟨by
    obtain⟨a1,a2,a3,a4,a5,a6,-⟩:=E1 i hi;exact hMo _ a1 a2 a3 a4 a5 (by omega) a6,by
    obtain⟨a1,a2,a3,a4,a5,a6,-⟩:=E2 i hi;exact hMo _ a1 a2 a3 a4 a5 a6 (by omega)⟩
   have hM57:M2 233057=none:=(hMo 233057 (by decide) (by decide) (by decide) (by decide) (by decide) (Ne.symm f17) (Ne.symm f27)).trans m57;clear hM2 hMo hA1 hA2 hB1 hB2;simp only[go_sem,go_sem_proc,af4,e0,e1,e6,e7,e23,e24,e25,w3,hM57]
   repeat' (first|refine qS ?_ ?_|fail)<;>intro h<;>simp only[h,go_sem,go_sem_proc,af4,e0,e1,e6,e7,e23,e24,e25,w3,hM57]
   exact⟨(t+1,_,_),by dsimp only;omega,by dsimp only;omega,rfl,by rw[htk];exact hfin⟩
  ·have c1m:pc l gc c1 = .ref (233600+c1) (gc c1) 4 0 (dm l c1).length:=by unfold pc;rw[if_neg hce]
   have c2m:pp l gp c1 = .ref (233700+c1) (gp c1) 1 0 (plc l c1).length:=by unfold pp;rw[if_neg hce,hpl]
   rw[c1m] at g1;rw[c2m] at g2;have k1:=hat.k1 c1 hc1 hce;have k2:=hat.k2 c1 hc1 hce;have ha1:=dw jz qt (233600+c1) (gc c1) 32 (dm l c1) ((c1:Int),c2,c3,c4) (cs:=[.dat (.int .i64 c1),.dat (.int .i64 c2),.dat (.int .i64 c3),.dat (.int .i64 c4)]) rfl (by omega) (by omega);have ha2:=dw ib Bs (233700+c1) (gp c1) 8 (plc l c1) l.length (cs:=[.dat (.int .i64 t)]) (by rw[htl];rfl) (by omega) (by omega);obtain⟨f11,f12,f13,f14,f15,f16,f17⟩:=E1 c1 hc1;obtain⟨f21,f22,f23,f24,f25,f26,f27⟩:=E2 c1 hc1;have hKa:(233600+c1)=233600+c1:=rfl;generalize hA:233600+c1=A at *;generalize hB:233700+c1=B at *;have hAB:A≠B:=f16;have q1:(A==233009)=false:=beq_eq_false_iff_ne.2 f11;have q1':(233009==A)=false:=beq_eq_false_iff_ne.2 (Ne.symm f11);have q2:(A==233019)=false:=beq_eq_false_iff_ne.2 f12;have q2':(233019==A)=false:=beq_eq_false_iff_ne.2 (Ne.symm f12);have q3:(A==233022)=false:=beq_eq_false_iff_ne.2 f13;have q3':(233022==A)=false:=beq_eq_false_iff_ne.2 (Ne.symm f13);have q4:(A==233043)=false:=beq_eq_false_iff_ne.2 f14;have q4':(233043==A)=false:=beq_eq_false_iff_ne.2 (Ne.symm f14);have q5:(A==233051)=false:=beq_eq_false_iff_ne.2 f15;have q5':(233051==A)=false:=beq_eq_false_iff_ne.2 (Ne.symm f15);have q6:(A==B)=false:=beq_eq_false_iff_ne.2 hAB;have q6':(B==A)=false:=beq_eq_false_iff_ne.2 (Ne.symm hAB);have p1:(B==233009)=false:=beq_eq_false_iff_ne.2 f21;have p1':(233009==B)=false:=beq_eq_false_iff_ne.2 (Ne.symm f21);have p2:(B==233019)=false:=beq_eq_false_iff_ne.2 f22;have p2':(233019==B)=false:=beq_eq_false_iff_ne.2 (Ne.symm f22);have p3:(B==233022)=false:=beq_eq_false_iff_ne.2 f23;have p3':(233022==B)=false:=beq_eq_false_iff_ne.2 (Ne.symm f23);have p4:(B==233043)=false:=beq_eq_false_iff_ne.2 f24;have p4':(233043==B)=false:=beq_eq_false_iff_ne.2 (Ne.symm f24);have p5:(B==233051)=false:=beq_eq_false_iff_ne.2 f25;have p5':(233051==B)=false:=beq_eq_false_iff_ne.2 (Ne.symm f25);have x1:(A=233009)=False:=eq_false f11;have x2:(B=233009)=False:=eq_false f21;have x3:(B=A)=False:=eq_false (Ne.symm hAB);have x4:(233019=A)=False:=eq_false (Ne.symm f12);have x5:(233019=B)=False:=eq_false (Ne.symm f22);have x6:(233022=A)=False:=eq_false (Ne.symm f13);have x7:(233022=B)=False:=eq_false (Ne.symm f23);have x8:(233009=A)=False:=eq_false (Ne.symm f11);have x9:(233009=B)=False:=eq_false (Ne.symm f21);have x10:(A=B)=False:=eq_false hAB;simp only[go_sem,go_sem_proc,af4,hml,e0,e1,e6,e7,e23,e24,e25,hx,r1,r2,g1,g2,n1,n2,s1,s2,d1,l1,hc1,k1,k2,ha1,ha2,q1,q1',q2,q2',q3,q3',q4,q4',q5,q5',q6,q6',p1,p1',p2,p2',p3,p3',p4,p4',p5,p5',x1,x2,x3,x4,x5,x6,x7,x8,x9,x10,clL,af9,agd,age];refine rN ?_;intro M2 hM2
   have hMo:∀ k:Nat,k≠233009→k≠233019→k≠233022→k≠A→k≠B→M2 k=m k:=fun k h9 h19 h22 hA hB=>by
    rw[hM2,aH h22,aH h19,aH hB,aH hA,aH h9,aH h9]
   have hA1:M2 233019=some (0,fL h.length fun i=>if i=c1 then .ref A (gc c1+1) 4 0 ((dm l c1).length+1) else pc l gc i):=by
    rw[hM2,aH (by decide),cj]
   have hA2:M2 A=some (gc c1+1,ay clL (dm l c1++[((c1:Int),c2,c3,c4)])):=by
    rw[hM2,aH f13,aH f12,aH hAB,cj]
   have hB1:M2 233022=some (0,fL h.length fun i=>if i=c1 then .ref B (gp c1+1) 1 0 ((dm l c1).length+1) else pp l gp i):=by
    rw[hM2,cj,hpl]
   have hB2:M2 B=some (gp c1+1,ay gJ (plc l c1++[l.length])):=by
    rw[hM2,aH f23,aH f22,cj]
   have hfin:=hat.next (m':=M2) hn (c2:=c2) (c3:=c3) (c4:=c4) (gc c1+1) (gp c1+1) (by rw[hA];exact hA1) (by rw[hB];exact hB1) (by rw[hA];exact hA2) (by rw[hB];exact hB2) fun i hi hne=>⟨by
    obtain⟨a1,a2,a3,a4,a5,a6,-⟩:=E1 i hi;exact hMo _ a1 a2 a3 (by omega) a6,by
    obtain⟨a1,a2,a3,a4,a5,a6,-⟩:=E2 i hi;exact hMo _ a1 a2 a3 a6 (by omega)⟩
   have hM57:M2 233057=none:=(hMo 233057 (by decide) (by decide) (by decide) (Ne.symm f17) (Ne.symm f27)).trans m57;clear hM2 hMo hA1 hA2 hB1 hB2;simp only[go_sem,go_sem_proc,af4,e0,e1,e6,e7,e23,e24,e25,w3,hM57]
   repeat' (first|refine qS ?_ ?_|fail)<;>intro h<;>simp only[h,go_sem,go_sem_proc,af4,e0,e1,e6,e7,e23,e24,e25,w3,hM57]
   exact⟨(t+1,_,_),by dsimp only;omega,by dsimp only;omega,rfl,by rw[htk];exact hfin⟩
 ·have d1:decide ((t:Int)<(cs.length:Int))=false:=decide_eq_false (by omega)
  rw[agD (by omega)] at hat;simp only[go_sem,go_sem_proc,af4,e0,e1,e6,e7,e23,e24,e25,d1]
  repeat' (first|refine qS ?_ ?_|fail)<;>intro h<;>simp only[h,go_sem,go_sem_proc,af4,e0,e1,e6,e7,e23,e24,e25,d1]
  refine hK _ _ gc gp ?_ ?_ ?_ ?_ m57 hat<;>simp only[aW,agh,if_false,e0,e1,e6,e7]
end Go.Mini
