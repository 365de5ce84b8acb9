/- A part of the proof. -/
import Derived.Test.YtdbkjjoedjfmpaaM07
import Derived.Test.YtdbkjjoedjfmpaaM04
import Derived.Test.YtdbkjjoedjfmpaaM06
set_option linter.unusedSimpArgs false
set_option linter.unusedVariables false
open List renaming getD_eq_getElem?_getD → ZC, getElem?_eq_getElem → ZD, getElem?_eq_none → ZE, length_map → ZH, replicate → ZJ, mem_replicate → ZL, getElem?_map → ZN, take_of_length_le → ZP, drop_set_of_lt → ZT, length_set → ZU, drop → ZY, map_cons → Z4, map_nil → Z5, drop_zero → Z8, drop_eq_getElem_cons → aac, length_cons → aad, length_singleton → aae, length_nil → aag, all_cons → aak, drop_eq_nil_of_le → aal, append_nil → aar, take_length → aas, length → aat, length_append → aau, append_assoc → aax, take_add_one → aaJ, mem_of_getElem? → aaK, mem_or_eq_of_mem_set → aaM, ext_getElem? → aaO, getElem?_set → aaP, getElem?_inj → aaQ, map_set → aaR, length_drop → aaT, getElem_drop → aaU, getElem?_drop → aaV, take → aaW, length_take → aaX, set_append_right → aaY, set_cons_zero → aa0, getElem?_append_right → aa1, mem_append → aa2
open Prod renaming ext → ZF, ext_iff → aap
open Bool renaming false_eq_true → ZG, true_and → aah, and_false → aai, false_and → aaj, not_eq_true' → aam, not_eq_false' → aan, and_eq_true → aao
open Nat renaming zero_le → ZK, lt_or_ge → ZO, max_eq_right → ZS, mul_one → ZX, le_refl → ZZ, mul_le_mul_right → Z1, le_of_lt → Z2, mul_comm → Z3, mul_lt_mul_of_pos_left → Z6, reduceEqDiff → Z7, mod_lt → aaf, gcd → aaz, lt_of_le_of_lt → aaA, gcd_comm → aaB, pos_of_ne_zero → aaH, add_zero → aaS, sub_self → aaZ
open Decidable renaming em → ZM
open Int renaming tdiv_eq_ediv_of_nonneg → ZQ, mul_zero → ZR, mul_add → ZV, mul_assoc → ZW, add_comm → Z9, natCast_zero → aaa, cast_ofNat_Int → aab, sign_eq_neg_one_of_neg → aaq, tmod_nonneg → aav, tdiv_nonneg → aaw, sign_eq_one_of_pos → aay, sign_mul → aaC, natAbs_neg → aaD, natAbs_natCast → aaE, sign_sign → aaF, mul_one → aaG
open Option renaming bind_none → Z0, map_eq_some_iff → aaL
open Rat renaming divInt → aaI
open Classical renaming choose_spec → aaN
namespace Go.Mini
open Go
set_option maxRecDepth 10000
set_option maxHeartbeats 4000000
theorem DV {b:List Int} {k:Nat} (h:k<b.length):b.getD k 0=b[k]:=by rw[ZC,ZD h];rfl
theorem te {b:List Int} {k:Nat} (h:b.length≤k):b.getD k 0=0:=by rw[ZC,ZE h];rfl
noncomputable def pV:List Data→Option PRes:=FF (α:=Nat × Nat) (fun (x,y)=>([digs x,digs y]:List Data)) (fun (x,y)=>aI ((dg x).length≤10000∧(dg y).length≤10000) (.same (digs (x*y))))
theorem xY:∀ a b:Nat × Nat,(fun (x,y)=>([digs x,digs y]:List Data)) a=(fun (x,y)=>([digs x,digs y]:List Data)) b→a=b:=by
  rintro⟨x1,y1⟩ ⟨x2,y2⟩ h;simp only[List.cons.injEq,digs,Data.sl.injEq] at h;exact ZF (fb (ah ak _ _ h.1)) (fb (ah ak _ _ h.2.1))
@[go_sem] theorem se (x:Nat) (y:Nat) (hc:(dg x).length≤10000∧(dg y).length≤10000):pV [digs x,digs y]=some (.same (digs (x*y))):=(aZ xY (x,y)).trans (ap hc _)
theorem KA (T:Tab) (a0:T bZ=mkE lV) (bj:T ct=mkE ls) (x:Nat) (y:Nat) (hc:(dg x).length≤10000∧(dg y).length≤10000) :
  wp T mf_ref04_times.body (bG mf_ref04_times.res (.same (digs (x*y)))) ⟨az [.dat (digs x),.dat (digs y)],emp⟩:=by
 refine aq ?_;simp only[mf_ref04_times];obtain⟨hx,hy⟩:=hc;have hdx:=eI x;have hdy:=eI y;have hvx:=f9 x;have hvy:=f9 y;generalize ha:dg x=a at *;generalize hb:dg y=b at *;have hw1:IntKind.i64.wrap ((a.length:Int)+(b.length:Int))=((a.length+b.length:Nat):Int):=by rw[al _ (by omega) (by omega)];rfl
 have hb1:8*(a.length+b.length)≤140737488355328:=by omega
 have hb2:a.length+b.length≤maxLen:=jm _ (by omega);have hbl:b.length≤1000000:=by omega
 simp only[go_sem,go_sem_proc,ZG,a0,bj,digs,ha,hb,hw1,hb1,hb2,mb,ZH]
 refine af [0,1,5] [] (fun ((i,o):Nat × List Int) tm mem=>i≤a.length∧o.length=a.length+b.length∧isD o∧o.drop (i+b.length)=ZJ (o.length-(i+b.length)) 0∧vl o=vl (a.take i)*y∧tm 6 = .dat (.int .i64 (i:Nat))∧mem 186015=some (0,ay aa o))
  (fun (i,_)=>a.length-i) (0,ZJ (a.length+b.length) 0) (by
   have hz:∀ n,vl (ZJ n 0)=0:=by
    intro n
    induction n with
    | zero=>rfl
    | succ n ih=>rw[List.replicate_succ,gO,ih];rfl
   refine⟨ZK _,by simp,fun d hd=>by rw[ZL] at hd;omega,by simp,by rw[hz];simp [vl],?_,?_⟩<;>rfl) ?_
 intro vs ms hvs hms;simp only[go_sem,go_sem_proc,ZG,a0,bj,digs,ha,hb,hw1,ZH] at hvs hms;subst hvs hms;rintro⟨i,o⟩ tm mem hk-⟨hi,ho,hdo,hzr,hvi,h6,hm⟩;simp only[go_sem,go_sem_proc,ZG,a0,bj,List.cons.injEq] at hk;obtain⟨h0,h1,h5⟩:=hk;rcases ZM (i<a.length) with hlt | hge
 ·have hga:a[i]?=some a[i]:=ZD hlt
  have hai:=dM hdx i hlt;have hts:=be a i hlt;generalize a[i]=xi at *;have hdec:decide ((i:Int)<(a.length:Int))=true:=decide_eq_true (by omega);have hwi:IntKind.i64.wrap ((i:Int)+1)=((i+1:Nat):Int):=by rw[al _ (by omega) (by omega)];rfl
  simp only[go_sem,go_sem_proc,ZG,a0,bj,h0,h1,h5,h6,hga,hdec,aa,ZH,ZN,List.cons.injEq]
  refine af [0,1,5,6] [] (fun ((k,c,o):Nat × Int × List Int) tm mem=>k≤b.length+1∧(k=b.length+1→c=0)∧o.length=a.length+b.length∧isD o∧o.drop (i+max k b.length)=ZJ (o.length-(i+max k b.length)) 0∧0≤c∧c<1048576∧vl o+1048576^(i+k)*c=vl (a.take i)*y+1048576^i*(xi*vl (b.take k)) ∧
    tm 8 = .dat (.int .i64 (k:Nat))∧tm 7 = .dat (.int .i64 c)∧mem 186015=some (0,ay aa o))
   (fun (k,_)=>b.length+1-k) (0,0,o) (by refine⟨ZK _,by simp,ho,hdo,by rw[Nat.zero_max];exact hzr,by omega,by omega,by simp [vl,hvi],?_,?_,hm⟩<;>rfl) ?_
  intro vs ms hvs hms;simp only[go_sem,go_sem_proc,ZG,a0,bj,h0,h1,h5,h6,aa,ZH] at hvs hms;subst hvs hms;rintro⟨k,c,o⟩ tm mem hk-⟨hki,hkc,ho,hdo,hzr,hc0,hc1,hvi,h8,h7,hm⟩;simp only[go_sem,go_sem_proc,ZG,a0,bj,List.cons.injEq] at hk;obtain⟨h0,h1,h5,h6⟩:=hk;have hw2:IntKind.i64.wrap ((k:Int)+1)=((k+1:Nat):Int):=by rw[al _ (by omega) (by omega)];rfl
  have hw3:IntKind.i64.wrap ((i:Int)+(k:Int))=((i+k:Nat):Int):=by rw[al _ (by omega) (by omega)];rfl
  by_cases hgo:k<b.length∨c>0
  ·have hkb:k≤b.length:=by
    rcases ZO b.length k with h | h
    ·have:=hkc (by omega);omega
    ·exact h
   have hjo:i+k<o.length:=by omega
   have hoj:=dM hdo (i+k) hjo
   have hbk:0≤b.getD k 0∧b.getD k 0<1048576:=by
    rcases ZO k b.length with h | h
    ·rw[DV h];exact dM hdy k h
    ·rw[te h];omega
   have hbt:vl (b.take (k+1))=vl (b.take k)+1048576^k*b.getD k 0:=by
    rcases ZO k b.length with h | h
    ·rw[DV h];exact be b k h
    ·rw[te h,ZP (by omega),ZP (by omega)];simp
   have hmax:k<b.length∨(k=b.length∧o[i+k]=0):=by
    rcases ZO k b.length with h | h
    ·exact .inl h
    ·refine .inr ⟨by omega,BF hzr (by omega) hjo⟩
   have hdg:=rZ b k hbl;generalize b.getD k 0=bk at *;obtain⟨m1,m2,m3,m4⟩:=wx hoj hai hbk ⟨hc0,hc1⟩;have hw4:IntKind.i64.wrap (xi*bk)=xi*bk:=al _ (by omega) (by omega);have hw5:IntKind.i64.wrap (o[i+k]+xi*bk)=o[i+k]+xi*bk:=al _ (by omega) (by omega);have hw6:IntKind.i64.wrap (o[i+k]+xi*bk+c)=o[i+k]+xi*bk+c:=al _ (by omega) (by omega);have hq1:(o[i+k]+xi*bk+c).tmod 1048576=(o[i+k]+xi*bk+c) % 1048576:=Int.tmod_eq_emod_of_nonneg (by omega);have hq2:IntKind.i64.wrap ((o[i+k]+xi*bk+c).tdiv 1048576)=(o[i+k]+xi*bk+c) / 1048576:=by rw[ZQ (by omega)];exact al _ (by omega) (by omega)
   have hio':i+k+1≤(ay aa o).length:=by rw[fh];omega
   have hget:=qR o (i+k) hjo;have hfold:=fun d=>g8 o (i+k) d hjo
   have hjl:i+k<a.length+b.length:=by omega
   have hfin:∃ i':Nat × Int × List Int,b.length+1-i'.1<b.length+1-k∧i'.1≤b.length+1∧(i'.1=b.length+1→i'.2.1=0)∧i'.2.2.length=a.length+b.length∧isD i'.2.2∧i'.2.2.drop (i+max i'.1 b.length)=ZJ (i'.2.2.length-(i+max i'.1 b.length)) 0∧0≤i'.2.1∧i'.2.1<1048576∧vl i'.2.2+1048576^(i+i'.1)*i'.2.1=vl (a.take i)*y+1048576^i*(xi*vl (b.take i'.1)) ∧
     MV.dat (Data.int .i64 ((k+1:Nat):Int))=MV.dat (Data.int .i64 (i'.1:Nat))∧MV.dat (Data.int .i64 ((o[i+k]+xi*bk+c) / 1048576))=MV.dat (Data.int .i64 i'.2.1)∧some (0,ay aa (o.set (i+k) ((o[i+k]+xi*bk+c) % 1048576)))=some (0,ay aa i'.2.2):=by
    refine⟨(k+1,(o[i+k]+xi*bk+c) / 1048576,o.set (i+k) ((o[i+k]+xi*bk+c) % 1048576)),by dsimp only;omega,by dsimp only;omega,?_,by simp [ho],kq hdo _ (by omega),?_,m3,m4,?_,rfl,rfl,rfl⟩
    ·intro h
     dsimp only at h ⊢;rcases hmax with h2 | ⟨h2,h3⟩
     ·omega
     ·have hbk0:bk=0:=by
       have e:=hdg;rw[rZ b k hbl,te (by omega)] at e
       simpa using e.symm
      rw[h3,hbk0,ZR];omega
    ·dsimp only
     rcases hmax with h2 | ⟨h2,h3⟩
     ·rw[ZS (by omega)] at hzr
      rw[ZS (by omega),ZT (by omega),ZU,hzr]
     ·rw[ZS (by omega),←h2] at hzr
      rw[Nat.max_eq_left (by omega)];exact uM hzr hjo
    ·dsimp only
     rw[CI _ _ _ hjo,hbt,←Nat.add_assoc,Int.pow_succ,BE _ _ _ _ _ _ _ hvi];rw[ZV (xi),ZV (1048576^i),Int.pow_add]
     have:(1048576:Int)^i*(xi*(1048576^k*bk))=1048576^i*1048576^k*(xi*bk):=by
      rw[←ZW (xi),Int.mul_comm (xi) (1048576^k),ZW (1048576^k),←ZW]
     omega
   by_cases hkb':k<b.length
   ·have d1:decide ((k:Int)<(b.length:Int))=true:=decide_eq_true (by omega)
    simp only[go_sem,go_sem_proc,ZG,a0,bj,h0,h1,h5,h6,h7,h8,hm,hga,hdg,d1,hw2,hw3,hw4,hw5,hw6,hq1,hq2,hjl,hio',hget,hfold,aa,ZX,ZH,ZN,List.cons.injEq]
    repeat' (first|refine qS ?_ ?_|fail)<;>intro h<;>simp only[h,go_sem,go_sem_proc,ZG,a0,bj,h0,h1,h5,h6,h7,h8,hm,hga,hdg,d1,hw2,hw3,hw4,hw5,hw6,hq1,hq2,hjl,hio',hget,hfold,aa,ZX,ZH,ZN,List.cons.injEq]
    exact hfin
   ·have d1:decide ((k:Int)<(b.length:Int))=false:=decide_eq_false (by omega)
    have d2:decide (c>0)=true:=decide_eq_true (by omega);simp only[go_sem,go_sem_proc,ZG,a0,bj,h0,h1,h5,h6,h7,h8,hm,hga,hdg,d1,d2,hw2,hw3,hw4,hw5,hw6,hq1,hq2,hjl,hio',hget,hfold,aa,ZX,ZH,ZN,List.cons.injEq]
    repeat' (first|refine qS ?_ ?_|fail)<;>intro h<;>simp only[h,go_sem,go_sem_proc,ZG,a0,bj,h0,h1,h5,h6,h7,h8,hm,hga,hdg,d1,d2,hw2,hw3,hw4,hw5,hw6,hq1,hq2,hjl,hio',hget,hfold,aa,ZX,ZH,ZN,List.cons.injEq]
    exact hfin
  ·have d1:decide ((k:Int)<(b.length:Int))=false:=decide_eq_false (by omega)
   have d2:decide (c>0)=false:=decide_eq_false (by omega);have hc00:c=0:=by omega
   rw[hc00,ZR,Int.add_zero,show b.take k=b from ZP (by omega),hvy] at hvi;simp only[go_sem,go_sem_proc,ZG,a0,bj,h0,h1,h5,h6,h7,h8,hm,d1,d2,hwi,ZH]
   repeat' (first|refine qS ?_ ?_|fail)<;>intro h<;>simp only[h,go_sem,go_sem_proc,ZG,a0,bj,h0,h1,h5,h6,h7,h8,hm,d1,d2,hwi,ZH]
   refine⟨(i+1,o),by dsimp only;omega,by dsimp only;omega,ho,hdo,?_,?_,rfl,rfl⟩
   ·dsimp only
    have h3:=congrArg (ZY (i+1+b.length-(i+max k b.length))) hzr;rw[List.drop_drop,List.drop_replicate] at h3;rw[show i+max k b.length+(i+1+b.length-(i+max k b.length))=i+1+b.length by omega] at h3
    rw[h3]
    congr 1
    omega
   ·dsimp only
    rw[hvi,hts,Int.add_mul,ZW]
 ·obtain rfl:i=a.length:=by omega
  have hdec:decide ((a.length:Int)<(a.length:Int))=false:=decide_eq_false (by omega);rw[ZP (ZZ _),hvx] at hvi;have hT:=iE o (by omega);rw[mF (n:=x*y) hdo (by rw[hvi];rfl)] at hT;have hL:=ky (dg (x*y));have hD:=eS (n:=5) bq hm;rw[ho] at hD;simp only[go_sem,go_sem_proc,ZG,a0,bj,h0,h1,h5,h6,hm,hdec,hT,hL,hD,dF,Z0,digs,ZH]
  repeat' (first|refine qS ?_ ?_|fail)<;>intro h<;>simp only[h,go_sem,go_sem_proc,ZG,a0,bj,h0,h1,h5,h6,hm,hdec,hT,hL,hD,dF,Z0,digs,ZH]
def MCode.sub2:MCode→List Nat→MCode
 | .seq a _,0::p=>a.sub2 p
 | .seq _ b,_::p=>b.sub2 p
 | .cond _ a _,0::p=>a.sub2 p
 | .cond _ _ b,_::p=>b.sub2 p
 | .block _ c,_::p=>c.sub2 p
 | .ghost _ c,_::p=>c.sub2 p
 | .loop c,_::p=>c.sub2 p
 | c,_=>c
theorem Bl {n:Nat} (h:0<n) (h1:n<1048576):[(n:Int)]=dg n:=(pd h h1).symm
theorem JV {n:Nat} (h1:n<1048576):cp [(n:Int)]=dg n:=mF (by intro d hd;have:=List.mem_singleton.1 hd;omega) (by simp [vl])
theorem FJ {d:Int} {r:Nat} (h0:0≤d) (h1:d<1048576):cp (d::dg r)=dg (d.toNat+1048576*r):=mF (isD_cons.2 ⟨⟨h0,h1⟩,eI r⟩) (by rw[gO,f9];omega)
theorem pE {n m k:Nat} (h:n<m*1048576) (hm:(dg m).length≤k):(dg n).length≤k+1:=by
 rw[dg_len] at *;rw[Nat.pow_succ];exact Nat.lt_of_lt_of_le h (Z1 _ (Z2 hm))
theorem EI (T:Tab) (dx:T gH=mkE pV) (eB:T jx=mkE sR) {K:bP→St→Prop} {kk:List Todo} (y R:Nat) (hy:(dg y).length≤1000) (hR:(dg R).length≤1001) (hy0:0<y) (hRy:R<y*1048576) (v0 v6 v8:MV) (tm:Nat→MV) (m:Mem)
  (e0:tm 0=v0) (e1:tm 1 = .dat (.sl ((dg y).map aa))) (e6:tm 6=v6) (e7:tm 7 = .dat (.sl ((dg R).map aa))) (e8:tm 8=v8) (e9:tm 9 = .dat (.int .i64 0)) (e10:tm 10 = .dat (.int .i64 1048576))
  (hK:∀ tm',tm' 0=v0→tm' 1 = .dat (.sl ((dg y).map aa))→tm' 6=v6→tm' 7 = .dat (.sl ((dg R).map aa))→tm' 8=v8→tm' 9 = .dat (.int .i64 ((R / y:Nat):Int))→kont T K kk (.exit 2) ⟨tm',m⟩) :
  wp T (mf_ref04_over.body.sub2 [1,1,1,0,1,0,0,1,0,0,1,1,1,0,0]) (kont T K kk) ⟨tm,m⟩:=by
 simp only[mf_ref04_over,MCode.sub2];refine af [0,1,6,7,8] [] (fun ((lo,hi):Nat × Nat) tm' m'=>lo<hi∧hi≤1048576∧lo*y≤R∧R<hi*y∧tm' 9 = .dat (.int .i64 lo)∧tm' 10 = .dat (.int .i64 hi)∧m'=m) (fun (lo,hi)=>hi-lo) (0,1048576) (by refine⟨by omega,by omega,by omega,by rw[Z3];exact hRy,e9,e10,rfl⟩) ?_;intro vs ms hvs hms;simp only[go_sem,go_sem_proc,ZG,e0,e1,e6,e7,e8] at hvs hms;subst hvs hms;clear e0 e1 e6 e7 e8 e9 e10;rintro⟨lo,hi⟩ tm m' hk hm ⟨hlh,hh,hlo,hhi,h9,h10,rfl⟩;simp only[go_sem,go_sem_proc,ZG,List.cons.injEq] at hk hm;obtain⟨h0,h1,h6,h7,h8⟩:=hk;have w1:IntKind.i64.wrap ((hi:Int)-(lo:Int))=(hi:Int)-(lo:Int):=al _ (by omega) (by omega)
 by_cases hgo:hi-lo>1
 ·have d1:decide ((hi:Int)-(lo:Int)>1)=true:=decide_eq_true (by omega)
  have w2:IntKind.i64.wrap ((lo:Int)+(hi:Int))=((lo+hi:Nat):Int):=by rw[al _ (by omega) (by omega)];omega
  have w3:IntKind.i64.wrap (((lo+hi:Nat):Int).tdiv 2)=(((lo+hi) / 2:Nat):Int):=by rw[ZQ (by omega),al _ (by omega) (by omega)];omega
  obtain⟨mid,hmid⟩:∃ mid:Nat,mid=(lo+hi) / 2:=⟨_,rfl⟩;rw[←hmid] at w3;have hT:=se y mid ⟨by omega,by rw[←Bl (n:=mid) (by omega) (by omega)];simp⟩
  simp only[digs] at hT;rw[←Bl (n:=mid) (by omega) (by omega)] at hT;simp only[Z4,Z5,aa] at hT;have hml:(dg (y*mid)).length≤1001:=pE (Z6 (show mid<1048576 by omega) hy0) hy;have hL:=Cw R (y*mid) ⟨by omega,by omega⟩
  simp only[digs] at hL;rcases hd:decide (R<y*mid)
  ·have hn:=of_decide_eq_false hd
   rw[hd] at hL;refine qI ?_
   repeat' (intro h<;>simp only[h,go_sem,go_sem_proc,ZG,dx,eB,h0,h1,h6,h7,h8,h9,h10,w1,w2,w3,d1,hT,hL]<;>try refine qS ?_ ?_)
   exact⟨(mid,hi),by dsimp only;omega,by dsimp only;omega,hh,by dsimp only;rw[Z3];omega,hhi,rfl,rfl⟩
  ·have hn:=of_decide_eq_true hd
   rw[hd] at hL;refine qI ?_
   repeat' (intro h<;>simp only[h,go_sem,go_sem_proc,ZG,dx,eB,h0,h1,h6,h7,h8,h9,h10,w1,w2,w3,d1,hT,hL]<;>try refine qS ?_ ?_)
   exact⟨(lo,mid),by dsimp only;omega,by dsimp only;omega,by dsimp only;omega,hlo,by dsimp only;rw[Z3];omega,rfl,rfl⟩
 ·have d1:decide ((hi:Int)-(lo:Int)>1)=false:=decide_eq_false (by omega)
  have hq:R / y=lo:=by
   have h1:hi=lo+1:=by omega
   subst h1;exact Nat.div_eq_of_lt_le hlo hhi
  refine qI ?_
  repeat' (intro h<;>simp only[h,go_sem,go_sem_proc,ZG,h0,h1,h6,h7,h8,h9,h10,w1,d1]<;>try refine qS ?_ ?_)
  refine hK _ ?_ ?_ ?_ ?_ ?_ ?_<;>simp only[aW,Z7,if_false,h0,h1,h6,h7,h8,h9,hq]
noncomputable def sS:List Data→Option PRes:=FF (α:=Nat × Nat) (fun (x,y)=>([digs x,digs y]:List Data)) (fun (x,y)=>aI ((dg x).length≤1000∧(dg y).length≤1000∧0<y) (.same (.tup [digs (x / y),digs (x % y)])))
theorem Ac:∀ a b:Nat × Nat,(fun (x,y)=>([digs x,digs y]:List Data)) a=(fun (x,y)=>([digs x,digs y]:List Data)) b→a=b:=by
  rintro⟨x1,y1⟩ ⟨x2,y2⟩ h;simp only[List.cons.injEq,digs,Data.sl.injEq] at h;exact ZF (fb (ah ak _ _ h.1)) (fb (ah ak _ _ h.2.1))
@[go_sem] theorem ul (x:Nat) (y:Nat) (hc:(dg x).length≤1000∧(dg y).length≤1000∧0<y):sS [digs x,digs y]=some (.same (.tup [digs (x / y),digs (x % y)])):=(aZ Ac (x,y)).trans (ap hc _)
theorem Lj (T:Tab) (bj:T ct=mkE ls) (dx:T gH=mkE pV) (eB:T jx=mkE sR) (cf:T gu=mkE rf) (x:Nat) (y:Nat) (hc:(dg x).length≤1000∧(dg y).length≤1000∧0<y) :
  wp T mf_ref04_over.body (bG mf_ref04_over.res (.same (.tup [digs (x / y),digs (x % y)]))) ⟨az [.dat (digs x),.dat (digs y)],emp⟩:=by
 refine aq ?_;simp only[mf_ref04_over];obtain⟨hx,hy,hy0⟩:=hc;have hdx:=eI x;have hvx:=f9 x;generalize ha:dg x=a at *;have hb1:8*a.length≤140737488355328:=by omega
 have hb2:a.length≤maxLen:=jm _ (by omega);have hw0:IntKind.i64.wrap ((a.length:Int)-1)=(a.length:Int)-1:=al _ (by omega) (by omega);simp only[go_sem,go_sem_proc,ZG,bj,dx,eB,cf,digs,ha,hb1,hb2,mb,hw0,ZH]
 refine af [0,1,6] [] (fun ((n,r,rv,o):Nat × Nat × MV × List Int) tm mem=>n≤a.length∧o.length=a.length∧isD o∧r<y∧vl (a.drop n)=y*vl (o.drop n)+r∧(rv = .nil∧r=0∨rv = .dat (digs r))∧tm 8 = .dat (.int .i64 ((n:Nat)-1))∧tm 7=rv∧mem 180014=some (0,ay aa o))
  (fun (n,_)=>n) (a.length,0,.nil,ZJ a.length 0) (by
   refine⟨ZZ _,by simp,fun d hd=>by rw[ZL] at hd;omega,hy0,by simp [vl],.inl ⟨rfl,rfl⟩,rfl,rfl,rfl⟩) ?_
 intro vs ms hvs hms;simp only[go_sem,go_sem_proc,ZG,bj,dx,eB,cf,digs,ha,ZH] at hvs hms;subst hvs hms;rintro⟨n,r,rv,o⟩ tm mem hk-⟨hn,ho,hdo,hr1,hv,hrv,h8,h7,hm⟩;simp only[go_sem,go_sem_proc,ZG,bj,dx,eB,cf,List.cons.injEq] at hk;obtain⟨h0,h1,h6⟩:=hk;rcases n with _ | n
 ·have hq:vl o=((x / y:Nat):Int)∧r=x % y:=by
   rw[Z8,Z8,hvx] at hv;have e1:(x:Int) / (y:Int)=vl o:=by rw[hv,Z9,Int.add_mul_ediv_left _ _ (by omega),Int.ediv_eq_zero_of_lt (by omega) (by omega)];omega
   have e2:(x:Int) % (y:Int)=r:=by rw[hv,Z9,Int.add_mul_emod_self_left,Int.emod_eq_of_lt (by omega) (by omega)]
   refine⟨by rw[←e1];rfl,by omega⟩
  have hT:=iE o (by omega);rw[mF (n:=x / y) hdo hq.1] at hT;have hL:=ky (dg (x / y));have hD:=eS (n:=5) bq hm;rw[ho] at hD;rcases hrv with ⟨rfl,hr0⟩ | rfl
  ·have hz:dg (x % y)=[]:=by rw[←hq.2,hr0];rfl
   simp only[go_sem,go_sem_proc,ZG,bj,dx,eB,cf,h0,h1,h6,h7,h8,hm,hT,hL,hD,hz,dF,Z0,digs,aaa,aab,show ¬ ((0:Int)-1≥0) by omega,decide_false,ZH,Z5]
   repeat' (first|refine qS ?_ ?_|fail)<;>intro h<;>simp only[h,go_sem,go_sem_proc,ZG,bj,dx,eB,cf,h0,h1,h6,h7,h8,hm,hT,hL,hD,hz,dF,Z0,digs,aaa,aab,show ¬ ((0:Int)-1≥0) by omega,decide_false,ZH,Z5]
  ·simp only[go_sem,go_sem_proc,ZG,bj,dx,eB,cf,h0,h1,h6,h7,h8,hm,hT,hL,hD,dF,Z0,digs,aaa,aab,show ¬ ((0:Int)-1≥0) by omega,decide_false,ZH,Z5,hq.2]
   repeat' (first|refine qS ?_ ?_|fail)<;>intro h<;>simp only[h,go_sem,go_sem_proc,ZG,bj,dx,eB,cf,h0,h1,h6,h7,h8,hm,hT,hL,hD,dF,Z0,digs,aaa,aab,show ¬ ((0:Int)-1≥0) by omega,decide_false,ZH,Z5,hq.2]
 ·have hga:a[n]?=some a[n]:=ZD (by omega)
  have han:=dM hdx n (by omega);have hda:a.drop n=a[n]::a.drop (n+1):=aac (by omega);have hno:n<o.length:=by omega
  have hdo':∀ e:Int,(o.set n e).drop n=e::o.drop (n+1):=fun e=>by
   rw[aac (by simpa using hno),List.getElem_set_self,ZT (by omega)]
  generalize a[n]=d at *;have hw:((n+1:Nat):Int)-1=(n:Int):=by omega
  have hge:decide ((n:Int)≥0)=true:=decide_eq_true (by omega);have hw4:IntKind.i64.wrap ((n:Int)-1)=(n:Int)-1:=al _ (by omega) (by omega);have hrl:(dg r).length≤1000:=by rw[dg_len] at *;omega
  obtain⟨R,hR⟩:∃ R:Nat,R=d.toNat+1048576*r:=⟨_,rfl⟩
  have hRlt:R<y*1048576:=by
   have:(r+1)*1048576≤y*1048576:=Z1 _ hr1;omega
  have hRl:=pE hRlt hy;have hct:=FJ (d:=d) (r:=r) han.1 han.2;rw[←hR] at hct;have hT:=iE (d::dg r) (by rw[aad];omega);rw[hct] at hT;simp only[Z4,aa] at hT;have hL:=ky (dg R)
  have happ:∀ G:Nat,jR 180026 G 1 1 8 (dg r).length (((dg r).map aa).flatten.map .dat) (some (G,[.dat (.int .i64 d)]))=some (.ref 180026 (G+1) 1 0 (1+(dg r).length),some (180026,G+1,ay aa (d::dg r))):=fun G=>by
   have:=jG bq gz 180026 G 8 [d] (dg r) (by rw[aae];omega) (by rw[aae];omega);exact this
  have hDr:∀ (G:Nat) (m:Mem),m 180026=some (G,ay aa (d::dg r))→toD 6 m (.ref 180026 G 1 0 (1+(dg r).length))=some (.sl ((d::dg r).map aa)):=fun G m hm=>by
   have:=eS (n:=5) bq hm;rw[aad,Nat.add_comm (dg r).length 1] at this;exact this
  have hev:(((dg r).map aa).all fun e=>e.length==1)=true:=ra _;have hDr':=hDr (cR (mem 180026)+1) (aB (aB mem 180026 (cR (mem 180026)) [MV.dat (.int .i64 d)]) 180026 (cR (mem 180026)+1) (ay aa (d::dg r))) (by simp [aB]);have hnl:n<a.length:=by omega
  obtain⟨lo,hlo⟩:∃ lo:Nat,lo=R / y:=⟨_,rfl⟩;have hlob:lo<1048576:=by rw[hlo];exact Nat.div_lt_of_lt_mul hRlt
  have hdm:=Nat.div_add_mod R y;have hml:=aaf R hy0;rw[←hlo] at hdm;have hmod:R-y*lo=R % y:=by omega
  have hmll:(dg (y*lo)).length≤1001:=pE (Z6 hlob hy0) hy
  have hT2:ls [.sl [[.int .i64 ((R / y:Nat):Int)]]]=some (.own 1 ((dg lo).map aa)):=by
   have h:=iE [((R / y:Nat):Int)] (by simp);rw[←hlo,JV hlob] at h;rw[←hlo];exact h
  have hT3:=se y lo ⟨by omega,by have:(dg lo).length≤1:=dg_len.2 (by rw[Nat.pow_one];exact hlob);omega⟩
  simp only[digs] at hT3;have hT4:=sn R (y*lo) ⟨by omega,by omega,by omega⟩
  rw[hmod] at hT4;simp only[digs] at hT4;have hio':n+1≤(ay aa o).length:=by rw[fh];omega
  have hfold:=g8 o n ((R / y:Nat):Int) hno
  have hfin:∃ i':Nat × Nat × MV × List Int,i'.1<n+1∧i'.1≤a.length∧i'.2.2.2.length=a.length∧isD i'.2.2.2∧i'.2.1<y∧vl (a.drop i'.1)=y*vl (i'.2.2.2.drop i'.1)+i'.2.1∧(i'.2.2.1 = .nil∧i'.2.1=0∨i'.2.2.1 = .dat (.sl ((dg i'.2.1).map aa)))∧MV.dat (Data.int .i64 ((n:Int)-1))=MV.dat (Data.int .i64 ((i'.1:Int)-1))∧MV.dat (Data.sl ((dg (R % y)).map aa))=i'.2.2.1∧some (0,ay aa (o.set n ((R / y:Nat):Int)))=some (0,ay aa i'.2.2.2):=by
   refine⟨(n,R % y,.dat (digs (R % y)),o.set n ((R / y:Nat):Int)),by dsimp only;omega,by dsimp only;omega,by simp [ho],kq hdo n (by omega),hml,?_,.inr rfl,rfl,rfl,rfl⟩
   dsimp only;rw[hda,gO,hv,hdo',gO,←hlo];have e1:(R:Int)=d+1048576*r:=by omega
   have e2:(y:Int)*lo+(R % y:Nat)=R:=by exact_mod_cast hdm
   have e3:∀ v:Int,(y:Int)*(lo+1048576*v)=y*lo+1048576*(y*v):=fun v=>by rw[ZV,Int.mul_left_comm]
   rw[e3];omega
  have main:rv = .nil∧r=0∨rv = .dat (digs r):=hrv;rcases main with ⟨rfl,hr0⟩ | rfl
  ·subst hr0
   have happ0:=happ;simp only[f8,Z5,List.flatten_nil,aag] at happ0;simp only[f8,aag] at hDr';simp only[f8,Z5] at hT;simp only[go_sem,go_sem_proc,ZG,bj,dx,eB,cf,h0,h1,h6,h7,h8,hm,hga,hw,hge,happ0,hT,hL,hDr',dF,Z0,aa,f8,ZH,ZN,Z5];refine EI T dx eB y R hy hRl hy0 hRlt (.dat (.sl (a.map aa))) (.ref 180014 0 1 0 a.length) (.dat (.int .i64 n)) _ _ ?_ ?_ ?_ ?_ ?_ ?_ ?_ ?_
   ·exact h0
   ·exact h1
   ·exact h6
   ·rfl
   ·simp only[aW,Z7,if_false,h8,hw]
   ·rfl
   ·rfl
   intro tm' k0 k1 k6 k7 k8 k9;simp only[go_sem,go_sem_proc,ZG,bj,dx,eB,cf,k0,k1,k6,k7,k8,k9,hm,hnl,hio',hfold,hT2,hT3,hT4,hw4,ZX]
   repeat' (first|refine qS ?_ ?_|fail)<;>intro h<;>simp only[h,go_sem,go_sem_proc,ZG,bj,dx,eB,cf,k0,k1,k6,k7,k8,k9,hm,hnl,hio',hfold,hT2,hT3,hT4,hw4,ZX]
   exact hfin
  ·simp only[go_sem,go_sem_proc,ZG,bj,dx,eB,cf,h0,h1,h6,h7,h8,hm,hga,hw,hge,happ,hev,hT,hL,hDr',dF,Z0,digs,aa,ZH,ZN]
   refine EI T dx eB y R hy hRl hy0 hRlt (.dat (.sl (a.map aa))) (.ref 180014 0 1 0 a.length) (.dat (.int .i64 n)) _ _ ?_ ?_ ?_ ?_ ?_ ?_ ?_ ?_
   ·exact h0
   ·exact h1
   ·exact h6
   ·rfl
   ·simp only[aW,Z7,if_false,h8,hw]
   ·rfl
   ·rfl
   intro tm' k0 k1 k6 k7 k8 k9;simp only[go_sem,go_sem_proc,ZG,bj,dx,eB,cf,k0,k1,k6,k7,k8,k9,hm,hnl,hio',hfold,hT2,hT3,hT4,hw4,ZX]
   repeat' (first|refine qS ?_ ?_|fail)<;>intro h<;>simp only[h,go_sem,go_sem_proc,ZG,bj,dx,eB,cf,k0,k1,k6,k7,k8,k9,hm,hnl,hio',hfold,hT2,hT3,hT4,hw4,ZX]
   exact hfin
noncomputable def oq:List Data→Option PRes:=FF (α:=Int × (List Int)) (fun (s,l)=>([.int .i64 s,.sl (l.map aa)]:List Data)) (fun (s,l)=>aI (l.length≤1000000) (.same (.agg (bF (ff s l)))))
theorem Bh:∀ a b:Int × (List Int),(fun (s,l)=>([.int .i64 s,.sl (l.map aa)]:List Data)) a=(fun (s,l)=>([.int .i64 s,.sl (l.map aa)]:List Data)) b→a=b:=by
  rintro⟨s1,l1⟩ ⟨s2,l2⟩ h;simp only[List.cons.injEq,Data.int.injEq,Data.sl.injEq] at h;exact ZF h.1.2 (ah ak _ _ h.2.1)
@[go_sem] theorem NR (s:Int) (l:List Int) (hc:l.length≤1000000):oq [.int .i64 s,.sl (l.map aa)]=some (.same (.agg (bF (ff s l)))):=(aZ Bh (s,l)).trans (ap hc _)
theorem MM (T:Tab) (bj:T ct=mkE ls) (s:Int) (l:List Int) (hc:l.length≤1000000) :
  wp T mf_ref04_made.body (bG mf_ref04_made.res (.same (.agg (bF (ff s l))))) ⟨az [.dat (.int .i64 s),.dat (.sl (l.map aa))],emp⟩:=by
 refine aq ?_;simp only[mf_ref04_made];have hT:=iE l hc;have hL:=ky (cp l);refine qI ?_
 repeat' (intro h<;>simp only[h,go_sem,go_sem_proc,ZG,bj,hT,hL,ZH]<;>try refine qS ?_ ?_)
 all_goals simp only[ff,bF,Z5, *,reduceIte,Bool.not_true,Bool.not_false,Bool.or_true,Bool.true_or,Bool.or_false,Bool.false_or,Bool.and_true,aah,aai,aaj,ZG,beq_self_eq_true,bne]
noncomputable def mD:List Data→Option PRes:=FF (α:=Int × (List Int)) (fun (s,l)=>([.agg [.int .i64 s,.sl (l.map aa)]]:List Data)) (fun (s,l)=>aI (l.length≤1000000) (.same (.bool (aJ (s,l)))))
theorem yy:∀ a b:Int × (List Int),(fun (s,l)=>([.agg [.int .i64 s,.sl (l.map aa)]]:List Data)) a=(fun (s,l)=>([.agg [.int .i64 s,.sl (l.map aa)]]:List Data)) b→a=b:=by
  rintro⟨s1,l1⟩ ⟨s2,l2⟩ h;simp only[List.cons.injEq,Data.agg.injEq,Data.int.injEq,Data.sl.injEq] at h;exact ZF h.1.1.2 (ah ak _ _ h.1.2.1)
@[go_sem] theorem Nl (s:Int) (l:List Int) (hc:l.length≤1000000):mD [.agg [.int .i64 s,.sl (l.map aa)]]=some (.same (.bool (aJ (s,l)))):=(aZ yy (s,l)).trans (ap hc _)
theorem II (T:Tab)  (s:Int) (l:List Int) (hc:l.length≤1000000) :
  wp T mf_ref04_Right.body (bG mf_ref04_Right.res (.same (.bool (aJ (s,l))))) ⟨az [.dat (.agg [.int .i64 s,.sl (l.map aa)])],emp⟩:=by
 refine aq ?_;simp only[mf_ref04_Right];simp only[go_sem,go_sem_proc,ZG,ZH];refine af [1] [162001] (fun (i:Nat) tm mem=>i≤l.length∧l.all mi=(l.drop i).all mi∧tm 3 = .dat (.int .i64 i)) (fun i=>l.length-i) 0 (by refine⟨by omega,by simp,rfl⟩) ?_;intro vs ms hvs hms;simp only[go_sem,go_sem_proc,ZG,ZH] at hvs hms;subst hvs hms;rintro i tm mem hk hm ⟨hi,hf,h3⟩;simp only[go_sem,go_sem_proc,ZG,List.cons.injEq] at hk hm;have h1:=hk;rcases ZM (i<l.length) with hlt | hge
 ·have hd:l.drop i=l[i]::l.drop (i+1):=aac hlt
  have hx:l[i]?=some l[i]:=ZD hlt;generalize l[i]=x at *;have d1:decide ((i:Int)<(l.length:Int))=true:=decide_eq_true (by omega)
  have hfin:∀ b,mi x=true→b=(l.drop (i+1)).all mi→l.all mi=b:=by
   intro b h1 h2;rw[hf,hd,aak,h1,h2,aah]
  have hbad:¬ mi x=true→aJ (s,l)=false:=by
   intro h1;rw[Bool.not_eq_true] at h1;unfold aJ;rw[hf,hd,aak,h1]
   rfl
  have w3:IntKind.i64.wrap ((i:Int)+1)=((i+1:Nat):Int):=by rw[al _ (by omega) (by omega)];omega
  simp only[go_sem,go_sem_proc,ZG,h1,h3,hm,hx,d1,w3,aa,ZH,ZN,List.cons.injEq]
  repeat' (first|refine qS ?_ ?_|fail)<;>intro h<;>simp only[h,go_sem,go_sem_proc,ZG,h1,h3,hm,hx,d1,w3,aa,ZH,ZN,List.cons.injEq]
  ·rw[hbad fun h=>by have:=(nA x).1 h;(simp only[Option.some.injEq,Data.bool.injEq,Data.int.injEq,true_and,decide_eq_true_eq,decide_eq_false_iff_not,ZG,beq_iff_eq,beq_eq_false_iff_ne,ne_eq] at*<;> omega)]
  ·exact⟨i+1,by omega,by omega,hfin _ ((nA x).2 (by (simp only[Option.some.injEq,Data.bool.injEq,Data.int.injEq,true_and,decide_eq_true_eq,decide_eq_false_iff_not,ZG,beq_iff_eq,beq_eq_false_iff_ne,ne_eq] at*<;> omega))) rfl,rfl⟩
  ·rw[hbad fun h=>by have:=(nA x).1 h;(simp only[Option.some.injEq,Data.bool.injEq,Data.int.injEq,true_and,decide_eq_true_eq,decide_eq_false_iff_not,ZG,beq_iff_eq,beq_eq_false_iff_ne,ne_eq] at*<;> omega)]
 ·have he:l.drop i=[]:=aal (by omega)
  rw[he] at hf;have hall:l.all mi=true:=by rw[hf];rfl
  have d1:decide ((i:Int)<(l.length:Int))=false:=decide_eq_false (by omega);rcases List.eq_nil_or_concat l with rfl | ⟨r,x,rfl⟩
  ·have d2:decide ((i:Int)<0)=false:=d1
   simp only[go_sem,go_sem_proc,ZG,h1,h3,hm,d2,aag,aaa,aab,beq_self_eq_true,Z5,bne]
   repeat' (first|refine qS ?_ ?_|fail)<;>intro h<;>simp only[h,go_sem,go_sem_proc,ZG,h1,h3,hm,d2,aag,aaa,aab,beq_self_eq_true,Z5,bne]
   all_goals (refine congrArg (fun b=>some (Data.bool b)) ?_;unfold aJ;simp;try simp only[decide_eq_true_eq,decide_eq_false_iff_not,beq_iff_eq,beq_eq_false_iff_ne,aam,aan,beq_eq_false_iff_ne,ne_eq] at *;omega)
  ·rw[List.concat_eq_append] at *
   have hne:(((r++[x]).length:Int)==0)=false:=by simp;omega
   have hw:IntKind.i64.wrap (((r++[x]).length:Int)-1)=(r.length:Int):=by
    have hl2:(r++[x]).length=r.length+1:=by simp
    rw[al _ (by omega) (by omega)];omega
   have hg:((r++[x]).map aa)[r.length]?=some [.int .i64 x]:=by simp [aa]
   have hr:aJ (s,r++[x])=((s==1||s == -1)&&decide (((r++[x]).length:Int)≤60)&&(x != 0)):=by
    unfold aJ;rw[hall];simp only[List.getLast?_append,List.getLast?_singleton];simp;have e1:decide (r.length≤59)=decide ((r.length:Int)+1≤60):=decide_eq_decide.2 (by omega);have e2:(some x != some (0:Int))=(x != 0):=by simp [bne]
    rw[e1,e2]
   rw[hr];simp only[go_sem,go_sem_proc,ZG,h1,h3,hm,d1,hne,hw,hg,ZH]
   repeat' (first|refine qS ?_ ?_|fail)<;>intro h<;>simp only[h,go_sem,go_sem_proc,ZG,h1,h3,hm,d1,hne,hw,hg,ZH]
   all_goals (refine congrArg (fun b=>some (Data.bool b)) ?_;clear hf hall hr hg hw hk hm h1 h3 d1;rw[Bool.eq_iff_iff];simp only[aao,Bool.or_eq_true,decide_eq_true_eq,decide_eq_false_iff_not,beq_iff_eq,beq_eq_false_iff_ne,aam,aan,ne_eq,ZG,false_iff,true_iff] at *;omega)
noncomputable def CL:List Data→Option PRes:=FF (α:=Int × (List Int)) (fun (s,l)=>([.agg [.int .i64 s,.sl (l.map aa)]]:List Data)) (fun (s,l)=>aI (l.length≤1000000) (.same (.agg (bF (iO (s,l))))))
theorem Dz:∀ a b:Int × (List Int),(fun (s,l)=>([.agg [.int .i64 s,.sl (l.map aa)]]:List Data)) a=(fun (s,l)=>([.agg [.int .i64 s,.sl (l.map aa)]]:List Data)) b→a=b:=by
  rintro⟨s1,l1⟩ ⟨s2,l2⟩ h;simp only[List.cons.injEq,Data.agg.injEq,Data.int.injEq,Data.sl.injEq] at h;exact ZF h.1.1.2 (ah ak _ _ h.1.2.1)
@[go_sem] theorem PJ (s:Int) (l:List Int) (hc:l.length≤1000000):CL [.agg [.int .i64 s,.sl (l.map aa)]]=some (.same (.agg (bF (iO (s,l))))):=(aZ Dz (s,l)).trans (ap hc _)
theorem O7 (T:Tab) (bQ:T cq=mkE mD) (bw:T cE=mkE oq) (s:Int) (l:List Int) (hc:l.length≤1000000) :
  wp T mf_ref04_Neg.body (bG mf_ref04_Neg.res (.same (.agg (bF (iO (s,l)))))) ⟨az [.dat (.agg [.int .i64 s,.sl (l.map aa)])],emp⟩:=by
 refine aq ?_;simp only[mf_ref04_Neg]
 by_cases hr:aJ (s,l)=true
 ·obtain⟨z,hz,e⟩:=(bm _).1 hr
  have e1:iO (s,l)=aR (-z):=by unfold iO;rw[if_pos hr,e,aU]
  cases e
  have hw:IntKind.i64.wrap (0-z.sign) = -z.sign:=by
   have:=Int.sign_trichotomy z;rw[al _ (by omega) (by omega)];omega
  rw[e1];refine qI ?_
  repeat' (intro h<;>simp only[h,go_sem,go_sem_proc,ZG,bQ,bw,hr,hc,hw,ss,bF]<;>try refine qS ?_ ?_)
 ·have hr:aJ (s,l)=false:=by simpa using hr
  have e1:iO (s,l)=(0,[]):=by unfold iO;rw[hr];rfl
  rw[e1];refine qI ?_
  repeat' (intro h<;>simp only[h,go_sem,go_sem_proc,ZG,bQ,bw,hr,hc,bF,Z5]<;>try refine qS ?_ ?_)
theorem zE (n:Int):(n.tmod 1048576).natAbs=n.natAbs % 1048576:=by rw[Int.natAbs_tmod];rfl
theorem Az (n:Int):(n.tdiv 1048576).natAbs=n.natAbs / 1048576:=by rw[Int.natAbs_tdiv];rfl
noncomputable def Hu:List Data→Option PRes:=FF (α:=Int) (fun (n:Int)=>([.int .i64 n]:List Data)) (fun (n:Int)=>aI (cn n) (.same (.agg (bF (aR n)))))
theorem Hm:∀ a b:Int,(fun (n:Int)=>([.int .i64 n]:List Data)) a=(fun (n:Int)=>([.int .i64 n]:List Data)) b→a=b:=by
  intro n1 n2 h;simp only[List.cons.injEq,Data.int.injEq,Data.agg.injEq,Data.sl.injEq,Data.bool.injEq,Data.str.injEq,Data.ptr.injEq,Data.tup.injEq,Prod.mk.injEq,true_and,and_true] at h ⊢
  first | exact h | simpa [aap,and_assoc] using h | grind
@[go_sem] theorem RU (n:Int) (hc:cn n):Hu [.int .i64 n]=some (.same (.agg (bF (aR n)))):=(aZ Hm n).trans (ap hc _)
theorem Qh (T:Tab) (bw:T cE=mkE oq) (n:Int) (hc:cn n) :
  wp T mf_ref04_Of.body (bG mf_ref04_Of.res (.same (.agg (bF (aR n))))) ⟨az [.dat (.int .i64 n)],emp⟩:=by
 refine aq ?_;simp only[mf_ref04_Of];have hc':=hc;unfold cn at hc';obtain⟨hn1,hn2⟩:=hc';have hlen:(dg n.natAbs).length≤60:=dg_len.2 (jy hc);rcases ZM (n=0) with rfl | hn0
 ·simp only[go_sem,go_sem_proc,ZG,bw,bF,beq_self_eq_true]
  repeat' (first|refine qS ?_ ?_|fail)<;>intro h<;>simp only[h,go_sem,go_sem_proc,ZG,bw,bF,beq_self_eq_true]
  rfl
 have hne:(n==0)=false:=by simpa using hn0
 have hs:∀ s:Int,s=n.sign→ff s (dg n.natAbs)=aR n:=fun s h=>cZ rfl fun _=>h
 have hlen':(dg n.natAbs).length≤1000000:=by omega
 rcases ZM (n<0) with hneg | hpos
 ·have hsn:=hs (-1) (aaq hneg).symm
  simp only[go_sem,go_sem_proc,ZG,bw,hne,hneg,decide_true];refine af [2,3] [144002] (fun ((u,g,l):Int × Nat × List Int) tm mem=>u≤0∧n≤u∧dg n.natAbs=l++dg u.natAbs∧tm 0 = .dat (.int .i64 u)∧tm 4 = .ref 144022 g 1 0 l.length∧mem 144022=some (g,ay aa l)) (fun (u,_)=>u.natAbs) (n,0,[]) (by refine⟨by omega,by omega,rfl,rfl,rfl,rfl⟩) ?_;intro vs ms hvs hms;simp only[go_sem,go_sem_proc,ZG,bw,hneg,decide_true] at hvs hms;subst hvs hms;rintro⟨u,g,l⟩ tm mem hk hm ⟨hu,hnu,hd,h0,h4,hm22⟩;simp only[go_sem,go_sem_proc,ZG,bw,List.cons.injEq] at hk hm;obtain⟨h2,h3⟩:=hk;rcases ZM (u=0) with rfl | hu0
  ·rw[show (0:Int).natAbs=0 from rfl,f8,aar] at hd
   rw[hd] at hsn hlen';simp only[go_sem,go_sem_proc,ZG,bw,h0,h2,h3,h4,hm,hm22,hsn,hlen',cu bq,aas,bF,ZH,beq_self_eq_true]
   repeat' (first|refine qS ?_ ?_|fail)<;>intro h<;>simp only[h,go_sem,go_sem_proc,ZG,bw,h0,h2,h3,h4,hm,hm22,hsn,hlen',cu bq,aas,bF,ZH,beq_self_eq_true]
  ·have hul:l.length≤60:=by
    have:=congrArg aat hd;rw[aau] at this;omega
   have hun:(u==0)=false:=by simpa using hu0
   have hap:=fun d:Int=>dw bq gz 144022 g 8 l d (cs:=[.dat (.int .i64 d)]) rfl (by omega) (by omega)
   have e1:=zE u;have e2:=Az u;have e3:u.tmod 1048576≤0:=by have:=aav (a:=-u) 1048576 (by omega);rw[Int.neg_tmod] at this;omega
   have e4:u.tdiv 1048576≤0∧u≤u.tdiv 1048576:=by
    have:=aaw (a:=-u) (b:=1048576) (by omega) (by omega);rw[Int.neg_tdiv] at this;omega
   have hw1:IntKind.i64.wrap (u.tdiv 1048576)=u.tdiv 1048576:=al _ (by omega) (by omega);have hw2:IntKind.i64.wrap (0-u.tmod 1048576) = -(u.tmod 1048576):=by rw[al _ (by omega) (by omega)];omega
   have hdu:=jX (n:=u.natAbs) (by omega)
   have hfin:∀ d:Int,d=((u.natAbs % 1048576:Nat):Int)→∃ i':Int × Nat × List Int,i'.1.natAbs<u.natAbs∧i'.1≤0∧n≤i'.1∧dg n.natAbs=i'.2.2++dg i'.1.natAbs∧MV.dat (.int .i64 (u.tdiv 1048576))=MV.dat (.int .i64 i'.1)∧MV.ref 144022 (g+1) 1 0 (l.length+1)=MV.ref 144022 i'.2.1 1 0 i'.2.2.length∧some (g+1,ay aa (l++[d]))=some (i'.2.1,ay aa i'.2.2):=by
    intro d hdd;refine⟨(u.tdiv 1048576,g+1,l++[d]),by dsimp only;omega,by dsimp only;omega,by dsimp only;omega,?_,rfl,by simp,rfl⟩
    dsimp only;rw[hd,hdu,hdd,e2,aax]
    rfl
   by_cases hz:u.tmod 1048576<0
   ·simp only[go_sem,go_sem_proc,ZG,bw,h0,h2,h3,h4,hm,hm22,hun,hap,hw1,hw2,hz,decide_true,ZH,List.cons.injEq]
    repeat' (first|refine qS ?_ ?_|fail)<;>intro h<;>simp only[h,go_sem,go_sem_proc,ZG,bw,h0,h2,h3,h4,hm,hm22,hun,hap,hw1,hw2,hz,decide_true,ZH,List.cons.injEq]
    exact hfin _ (by omega)
   ·simp only[go_sem,go_sem_proc,ZG,bw,h0,h2,h3,h4,hm,hm22,hun,hap,hw1,hw2,hz,decide_false,ZH,List.cons.injEq]
    repeat' (first|refine qS ?_ ?_|fail)<;>intro h<;>simp only[h,go_sem,go_sem_proc,ZG,bw,h0,h2,h3,h4,hm,hm22,hun,hap,hw1,hw2,hz,decide_false,ZH,List.cons.injEq]
    exact hfin _ (by omega)
 ·have hsn:=hs 1 (aay (by omega)).symm
  simp only[go_sem,go_sem_proc,ZG,bw,hne,hpos,decide_false];refine af [2,3] [144002] (fun ((u,g,l):Int × Nat × List Int) tm mem=>0≤u∧u≤n∧dg n.natAbs=l++dg u.natAbs∧tm 0 = .dat (.int .i64 u)∧tm 4 = .ref 144022 g 1 0 l.length∧mem 144022=some (g,ay aa l)) (fun (u,_)=>u.natAbs) (n,0,[]) (by refine⟨by omega,by omega,rfl,rfl,rfl,rfl⟩) ?_;intro vs ms hvs hms;simp only[go_sem,go_sem_proc,ZG,bw,hpos,decide_false] at hvs hms;subst hvs hms;rintro⟨u,g,l⟩ tm mem hk hm ⟨hu,hnu,hd,h0,h4,hm22⟩;simp only[go_sem,go_sem_proc,ZG,bw,List.cons.injEq] at hk hm;obtain⟨h2,h3⟩:=hk;rcases ZM (u=0) with rfl | hu0
  ·rw[show (0:Int).natAbs=0 from rfl,f8,aar] at hd
   rw[hd] at hsn hlen';simp only[go_sem,go_sem_proc,ZG,bw,h0,h2,h3,h4,hm,hm22,hsn,hlen',cu bq,aas,bF,ZH,beq_self_eq_true]
   repeat' (first|refine qS ?_ ?_|fail)<;>intro h<;>simp only[h,go_sem,go_sem_proc,ZG,bw,h0,h2,h3,h4,hm,hm22,hsn,hlen',cu bq,aas,bF,ZH,beq_self_eq_true]
  ·have hul:l.length≤60:=by
    have:=congrArg aat hd;rw[aau] at this;omega
   have hun:(u==0)=false:=by simpa using hu0
   have hap:=fun d:Int=>dw bq gz 144022 g 8 l d (cs:=[.dat (.int .i64 d)]) rfl (by omega) (by omega)
   have e1:=zE u;have e2:=Az u;have e3:=aav (a:=u) 1048576 (by omega);have e4:=aaw (a:=u) (b:=1048576) (by omega) (by omega);have hw1:IntKind.i64.wrap (u.tdiv 1048576)=u.tdiv 1048576:=al _ (by omega) (by omega);have hdu:=jX (n:=u.natAbs) (by omega);have hz:decide (u.tmod 1048576<0)=false:=decide_eq_false (by omega);simp only[go_sem,go_sem_proc,ZG,bw,h0,h2,h3,h4,hm,hm22,hun,hap,hw1,hz,ZH,List.cons.injEq]
   repeat' (first|refine qS ?_ ?_|fail)<;>intro h<;>simp only[h,go_sem,go_sem_proc,ZG,bw,h0,h2,h3,h4,hm,hm22,hun,hap,hw1,hz,ZH,List.cons.injEq]
   refine⟨(u.tdiv 1048576,g+1,l++[u.tmod 1048576]),by dsimp only;omega,by dsimp only;omega,by dsimp only;omega,?_,rfl,by simp,by first | rfl | simp [go_sem]⟩
   dsimp only;rw[hd,hdu,e2,aax,show u.tmod 1048576=((u.natAbs % 1048576:Nat):Int) by omega]
   rfl
noncomputable def C5:List Data→Option PRes:=FF (α:=Int × (List Int) × Int × (List Int)) (fun (s,l,s2,l2)=>([.agg [.int .i64 s,.sl (l.map aa)],.agg [.int .i64 s2,.sl (l2.map aa)]]:List Data)) (fun (s,l,s2,l2)=>aI (l.length≤1000000∧l2.length≤1000000) (.same (dR (kp (s,l) (s2,l2)))))
theorem Df:∀ a b:Int × (List Int) × Int × (List Int),(fun (s,l,s2,l2)=>([.agg [.int .i64 s,.sl (l.map aa)],.agg [.int .i64 s2,.sl (l2.map aa)]]:List Data)) a=(fun (s,l,s2,l2)=>([.agg [.int .i64 s,.sl (l.map aa)],.agg [.int .i64 s2,.sl (l2.map aa)]]:List Data)) b→a=b:=by
  rintro⟨s1,l1,s21,l21⟩ ⟨s2,l2,s22,l22⟩ h;simp only[List.cons.injEq,Data.agg.injEq,Data.int.injEq,Data.sl.injEq] at h;exact ZF h.1.1.2 (ZF (ah ak _ _ h.1.2.1) (ZF h.2.1.1.2 (ah ak _ _ h.2.1.2.1)))
@[go_sem] theorem PQ (s:Int) (l:List Int) (s2:Int) (l2:List Int) (hc:l.length≤1000000∧l2.length≤1000000):C5 [.agg [.int .i64 s,.sl (l.map aa)],.agg [.int .i64 s2,.sl (l2.map aa)]]=some (.same (dR (kp (s,l) (s2,l2)))):=(aZ Df (s,l,s2,l2)).trans (ap hc _)
theorem NX (T:Tab) (bQ:T cq=mkE mD) (dL:T ig=mkE sS) (bw:T cE=mkE oq) (s:Int) (l:List Int) (s2:Int) (l2:List Int) (hc:l.length≤1000000∧l2.length≤1000000) :
  wp T mf_ref04_Gcd.body (bG mf_ref04_Gcd.res (.same (dR (kp (s,l) (s2,l2))))) ⟨az [.dat (.agg [.int .i64 s,.sl (l.map aa)]),.dat (.agg [.int .i64 s2,.sl (l2.map aa)])],emp⟩:=by
 refine aq ?_;simp only[mf_ref04_Gcd];obtain⟨hl1,hl2⟩:=hc
 by_cases hr:aJ (s,l)=true
 ·by_cases hr2:aJ (s2,l2)=true
  ·obtain⟨x,hx,e⟩:=(bm _).1 hr
   obtain⟨y,hy,e2⟩:=(bm _).1 hr2
   have hm:kp (s,l) (s2,l2)=(aR (aaz x.natAbs y.natAbs:Nat),0):=by
    rw[e,e2];unfold kp
    rw[bK hx,bK hy,aU,aU]
    rfl
   rw[hm];clear hm
   cases e
   cases e2;have hlx:=fF hx;have hly:=fF hy;have hg:=pK hx hy;generalize hX:x.natAbs=X at *;generalize hY:y.natAbs=Y at *;have hl1':(dg X).length≤1000000:=by omega
   simp only[go_sem,go_sem_proc,ZG,bQ,dL,bw,hr,hr2,hX,hY,hl1,hl2,hl1',aa,ZH];refine af [4] [164004] (fun ((a,b):Nat × Nat) tm mem=>a<LIM∧b<LIM∧aaz X Y=aaz a b∧tm 6 = .dat (.sl ((dg a).map aa))∧tm 7 = .dat (.sl ((dg b).map aa))) (fun (_,b)=>b) (X,Y) (by refine⟨hx,hy,rfl,rfl,rfl⟩) ?_
   intro vs ms hvs hms;simp only[go_sem,go_sem_proc,ZG,bQ,dL,bw,hX,hY] at hvs hms;subst hvs hms;rintro⟨a,b⟩ tm mem hk hm ⟨ha,hb,hgc,h6,h7⟩;simp only[go_sem,go_sem_proc,ZG,bQ,dL,bw,List.cons.injEq] at hk hm;have h4:=hk;have hla:(dg a).length≤60:=dg_len.2 ha;have hlb:(dg b).length≤60:=dg_len.2 hb;rcases Nat.eq_zero_or_pos b with h0 | hpos
   ·subst h0
    have hz:dg 0=[]:=rfl;have hla':(dg a).length≤1000000:=by omega
    rw[Nat.gcd_zero_right] at hgc;have hs:ff 1 (dg a)=aR ((a:Nat):Int):=cZ (by simp) fun hn=>(aay (by omega)).symm
    rw[hgc];refine qI ?_
    repeat' (intro h<;>simp only[h,go_sem,go_sem_proc,ZG,bQ,dL,bw,h4,h6,h7,hm,hz,hla',hs,bF,dR,cS,Z5,aag,aaa,aab,show ¬ ((0:Int)>0) by omega,decide_false]<;>try refine qS ?_ ?_)
   ·have hne:decide (((dg b).length:Int)>0)=true:=by
     have:dg b≠[]:=by rw[Ne,mQ];omega
     have:=List.length_pos_iff.2 this;exact decide_eq_true (by omega)
    have hdiv:=ul a b ⟨by omega,by omega,hpos⟩
    simp only[digs] at hdiv;refine qI ?_
    repeat' (intro h<;>simp only[h,go_sem,go_sem_proc,ZG,bQ,dL,bw,h4,h6,h7,hm,hne,hdiv,ZH]<;>try refine qS ?_ ?_)
    exact⟨(b,a % b),aaf _ hpos,hb,aaA (Nat.mod_le _ _) ha,by dsimp only;rw[hgc,aaB a b,Nat.gcd_rec b a,aaB],rfl,rfl⟩
  ·have hr2:aJ (s2,l2)=false:=by simpa using hr2
   have hm:kp (s,l) (s2,l2)=((0,[]),1):=by unfold kp;rw[hr2,aai];rfl
   rw[hm];refine qI ?_
   repeat' (intro h<;>simp only[h,go_sem,go_sem_proc,ZG,bQ,dL,bw,hr,hr2,hl1,hl2,bF,dR,Z5]<;>try refine qS ?_ ?_)
 ·have hr:aJ (s,l)=false:=by simpa using hr
  have hm:kp (s,l) (s2,l2)=((0,[]),1):=by unfold kp;rw[hr,aaj];rfl
  rw[hm];refine qI ?_
  repeat' (intro h<;>simp only[h,go_sem,go_sem_proc,ZG,bQ,dL,bw,hr,hl1,hl2,bF,dR,Z5]<;>try refine qS ?_ ?_)

noncomputable def DH:List Data→Option PRes:=FF (α:=Int × (List Int) × Int × (List Int)) (fun (s,l,s2,l2)=>([.agg [.int .i64 s,.sl (l.map aa)],.agg [.int .i64 s2,.sl (l2.map aa)]]:List Data)) (fun (s,l,s2,l2)=>aI (l.length≤1000000∧l2.length≤1000000) (.same (dj (je (s,l) (s2,l2)))))
theorem DJ:∀ a b:Int × (List Int) × Int × (List Int),(fun (s,l,s2,l2)=>([.agg [.int .i64 s,.sl (l.map aa)],.agg [.int .i64 s2,.sl (l2.map aa)]]:List Data)) a=(fun (s,l,s2,l2)=>([.agg [.int .i64 s,.sl (l.map aa)],.agg [.int .i64 s2,.sl (l2.map aa)]]:List Data)) b→a=b:=by
  rintro⟨s1,l1,s21,l21⟩ ⟨s2,l2,s22,l22⟩ h;simp only[List.cons.injEq,Data.agg.injEq,Data.int.injEq,Data.sl.injEq] at h;exact ZF h.1.1.2 (ZF (ah ak _ _ h.1.2.1) (ZF h.2.1.1.2 (ah ak _ _ h.2.1.2.1)))
@[go_sem] theorem Py (s:Int) (l:List Int) (s2:Int) (l2:List Int) (hc:l.length≤1000000∧l2.length≤1000000):DH [.agg [.int .i64 s,.sl (l.map aa)],.agg [.int .i64 s2,.sl (l2.map aa)]]=some (.same (dj (je (s,l) (s2,l2)))):=(aZ DJ (s,l,s2,l2)).trans (ap hc _)
theorem Oc (T:Tab) (bQ:T cq=mkE mD) (dL:T ig=mkE sS) (ik:T lR=mkE ye) (cf:T gu=mkE rf) (bw:T cE=mkE oq) (s:Int) (l:List Int) (s2:Int) (l2:List Int) (hc:l.length≤1000000∧l2.length≤1000000) :
  wp T mf_ref04_Div.body (bG mf_ref04_Div.res (.same (dj (je (s,l) (s2,l2))))) ⟨az [.dat (.agg [.int .i64 s,.sl (l.map aa)]),.dat (.agg [.int .i64 s2,.sl (l2.map aa)])],emp⟩:=by
 refine aq ?_;simp only[mf_ref04_Div];obtain⟨hl1,hl2⟩:=hc
 by_cases hr:aJ (s,l)=true
 ·by_cases hr2:aJ (s2,l2)=true
  ·obtain⟨x,hx,e⟩:=(bm _).1 hr
   obtain⟨y,hy,e2⟩:=(bm _).1 hr2
   by_cases hy0:y=0
   ·have hm:je (s,l) (s2,l2)=((0,[]),(0,[]),15):=by
     rw[e,e2];unfold je
     rw[bK hx,bK hy,aU,aU,if_pos (by rfl),if_pos hy0]
    rw[hm]
    cases e
    cases e2;have h0:((y.sign:Int)==0)=true:=by rw[hy0];rfl
    simp only[go_sem,go_sem_proc,ZG,bQ,dL,ik,cf,bw,hr,hr2,hl1,hl2,h0,bF,dj,Z5]
    repeat' (first|refine qS ?_ ?_|fail)<;>intro h<;>simp only[h,go_sem,go_sem_proc,ZG,bQ,dL,ik,cf,bw,hr,hr2,hl1,hl2,h0,bF,dj,Z5]
   ·have hm:je (s,l) (s2,l2)=(aR (x.fdiv y),aR (x.fmod y),0):=by
     rw[e,e2];exact kA hx hy hy0
    rw[hm];clear hm
    cases e
    cases e2;have hlx:=fF hx;have hly:=fF hy;have hy0':(y.sign==0)=false:=by rw[beq_eq_false_iff_ne,Ne,Int.sign_eq_zero_iff_zero];exact hy0
    have hypos:0<y.natAbs:=by omega
    have h1:=eh x;have h2:=eh y;have hp:x.sign*y.sign=(x*y).sign:=(aaC x y).symm;have h3:=eh (x*y);have hw:IntKind.i64.wrap (x.sign*y.sign)=x.sign*y.sign:=by rw[hp];exact al _ (by omega) (by omega)
    have hdiv:=ul x.natAbs y.natAbs ⟨by omega,by omega,hypos⟩
    simp only[digs] at hdiv;have hq:=lY (y:=y) hx hy0;have hr3:=zh (x:=x) hy hy0;have hlq:x.natAbs / y.natAbs<LIM:=aaA (Nat.div_le_self _ _) hx;have hlq':(dg (x.natAbs / y.natAbs)).length≤60:=dg_len.2 hlq;have hlr:x.natAbs % y.natAbs<LIM:=Nat.lt_trans (aaf _ hypos) hy;have hlr':(dg (x.natAbs % y.natAbs)).length≤60:=dg_len.2 hlr
    by_cases hlow:x.sign*y.sign<0∧x.natAbs % y.natAbs≠0
    ·obtain⟨eq,er⟩:=oB hlow.1 hlow.2
     have hne:(((dg (x.natAbs % y.natAbs)).length:Int)==0)=false:=by
      have:dg (x.natAbs % y.natAbs)≠[]:=by rw[Ne,mQ];exact hlow.2
      have:=List.length_pos_iff.2 this;rw[beq_eq_false_iff_ne];omega
     have hneg:decide (x.sign*y.sign≥0)=false:=decide_eq_false (by have:=hlow.1;omega);have hd1:dg 1=[1]:=by simp [dg,dgF]
     have hl1d:(dg 1).length=1:=by rw[hd1];rfl
     have hadd:=Cu (x.natAbs / y.natAbs) 1 ⟨by omega,by omega⟩
     simp only[digs,hd1,Z4,Z5,aa] at hadd;have hsub:=sn y.natAbs (x.natAbs % y.natAbs) ⟨by omega,by omega,Z2 (aaf _ hypos)⟩
     simp only[digs] at hsub
     have hla:(dg (x.natAbs / y.natAbs+1)).length≤1000000:=by
      have:(x.natAbs / y.natAbs+1)<LIM:=by rw[eq] at hq;rw[aaD,aaE] at hq;exact hq
      have:=(dg_len (k:=60)).2 this;omega
     have hlb:(dg (y.natAbs-x.natAbs % y.natAbs)).length≤1000000:=by have:=sO y.natAbs (x.natAbs % y.natAbs);omega
     have hs1:ff (-1) (dg (x.natAbs / y.natAbs+1))=aR (x.fdiv y):=cZ (by rw[eq,aaD,aaE]) fun _=>by rw[eq,Int.sign_neg,aay (show (0:Int)<((x.natAbs / y.natAbs+1:Nat):Int) by exact Int.natCast_pos.2 (Nat.succ_pos _))]
     have hs2:ff y.sign (dg (y.natAbs-x.natAbs % y.natAbs))=aR (x.fmod y):=by
      refine cZ ?_ fun hn=>?_
      ·rw[er];rcases cD y with ⟨e',h3⟩ | ⟨e',h3⟩ | ⟨e',h3⟩<;>rw[e']<;>omega
      ·rw[er,aaC,aaF,aay (show (0:Int)<((y.natAbs-x.natAbs % y.natAbs:Nat):Int) by omega),aaG]
     simp only[go_sem,go_sem_proc,ZG,bQ,dL,ik,cf,bw,hr,hr2,hl1,hl2,hy0',hw,hdiv,hne,hneg,hadd,hsub,hla,hlb,hs1,hs2,aa,ZH,bF,dj,cS]
     repeat' (first|refine qS ?_ ?_|fail)<;>intro h<;>simp only[h,go_sem,go_sem_proc,ZG,bQ,dL,ik,cf,bw,hr,hr2,hl1,hl2,hy0',hw,hdiv,hne,hneg,hadd,hsub,hla,hlb,hs1,hs2,aa,ZH,bF,dj,cS]
    ·obtain⟨eq,er⟩:=lu hy0 hlow
     have hlow':(decide (x.sign*y.sign≥0)=false∧(((dg (x.natAbs % y.natAbs)).length:Int)==0)=true)∨decide (x.sign*y.sign≥0)=true:=by
      by_cases hn:x.sign*y.sign<0
      ·left
       have:x.natAbs % y.natAbs=0:=Decidable.not_not.1 fun h=>hlow ⟨hn,h⟩
       rw[this];exact⟨decide_eq_false (by omega),rfl⟩
      ·right;exact decide_eq_true (by omega)
     have hla:(dg (x.natAbs / y.natAbs)).length≤1000000:=by omega
     have hlb:(dg (x.natAbs % y.natAbs)).length≤1000000:=by omega
     have hs1:ff (x.sign*y.sign) (dg (x.natAbs / y.natAbs))=aR (x.fdiv y):=by
      refine cZ ?_ fun hn=>?_
      ·rw[eq]
       have hgen:∀ Q:Nat,(x=0→Q=0)→(x.sign*y.sign*(Q:Int)).natAbs=Q:=by
        intro Q h0;rcases cD x with ⟨e,h1⟩ | ⟨e,h1⟩ | ⟨e,h1⟩<;>rcases cD y with ⟨e',h3⟩ | ⟨e',h3⟩ | ⟨e',h3⟩<;>rw[e,e']<;>first | omega | (rw[h0 h1];rfl)
       exact hgen _ fun h0=>by rw[h0];exact Nat.zero_div _
      ·rw[eq,hp,aaC,aaC,aaC,aaF,aaF,aay (show (0:Int)<((x.natAbs / y.natAbs:Nat):Int) from Int.natCast_pos.2 (aaH hn)),aaG]
     have hs2:ff x.sign (dg (x.natAbs % y.natAbs))=aR (x.fmod y):=by
      refine cZ ?_ fun hn=>?_
      ·rw[er]
       have hgen:∀ Q:Nat,(x=0→Q=0)→(x.sign*(Q:Int)).natAbs=Q:=by
        intro Q h0;rcases cD x with ⟨e,h1⟩ | ⟨e,h1⟩ | ⟨e,h1⟩<;>rw[e]<;>first | omega | (rw[h0 h1];rfl)
       exact hgen _ fun h0=>by rw[h0];exact Nat.zero_mod _
      ·rw[er,aaC,aaF,aay (show (0:Int)<((x.natAbs % y.natAbs:Nat):Int) from Int.natCast_pos.2 (aaH hn)),aaG]
     rcases hlow' with ⟨hlow1,hlow2⟩ | hlow1
     ·simp only[go_sem,go_sem_proc,ZG,bQ,dL,ik,cf,bw,hr,hr2,hl1,hl2,hy0',hw,hdiv,hlow1,hlow2,hla,hlb,hs1,hs2,aa,ZH,bF,dj,cS]
      repeat' (first|refine qS ?_ ?_|fail)<;>intro h<;>simp only[h,go_sem,go_sem_proc,ZG,bQ,dL,ik,cf,bw,hr,hr2,hl1,hl2,hy0',hw,hdiv,hlow1,hlow2,hla,hlb,hs1,hs2,aa,ZH,bF,dj,cS]
     ·simp only[go_sem,go_sem_proc,ZG,bQ,dL,ik,cf,bw,hr,hr2,hl1,hl2,hy0',hw,hdiv,hlow1,hla,hlb,hs1,hs2,aa,ZH,bF,dj,cS]
      repeat' (first|refine qS ?_ ?_|fail)<;>intro h<;>simp only[h,go_sem,go_sem_proc,ZG,bQ,dL,ik,cf,bw,hr,hr2,hl1,hl2,hy0',hw,hdiv,hlow1,hla,hlb,hs1,hs2,aa,ZH,bF,dj,cS]
  ·have hr2:aJ (s2,l2)=false:=by simpa using hr2
   have hm:je (s,l) (s2,l2)=((0,[]),(0,[]),1):=by unfold je;rw[hr2,aai];rfl
   rw[hm];simp only[go_sem,go_sem_proc,ZG,bQ,dL,ik,cf,bw,hr,hr2,hl1,hl2,bF,dj,Z5]
   repeat' (first|refine qS ?_ ?_|fail)<;>intro h<;>simp only[h,go_sem,go_sem_proc,ZG,bQ,dL,ik,cf,bw,hr,hr2,hl1,hl2,bF,dj,Z5]
 ·have hr:aJ (s,l)=false:=by simpa using hr
  have hm:je (s,l) (s2,l2)=((0,[]),(0,[]),1):=by unfold je;rw[hr,aaj];rfl
  rw[hm];simp only[go_sem,go_sem_proc,ZG,bQ,dL,ik,cf,bw,hr,hl1,hl2,bF,dj,Z5]
  repeat' (first|refine qS ?_ ?_|fail)<;>intro h<;>simp only[h,go_sem,go_sem_proc,ZG,bQ,dL,ik,cf,bw,hr,hl1,hl2,bF,dj,Z5]
def mf_ref05_Of:MFunc :=
 { n:=13,np:=2,res:=[.cell 4 4 true,.t 5],body :=
 (.seq (.ops [
 ⟨some 4,none,.alloc 124004 [(ZI 0),.nil,(ZI 0),.nil]⟩,Zi 5 0])
 (.seq (.ops [
 Zv 6 0,⟨some 7,none,.call lh [(.t 6)]⟩,Zv 8 1,⟨some 9,none,.call lh [(.t 8)]⟩,⟨some 10,none,.call nf [(.t 7),(.t 9)]⟩,Zx 11 0 10,Zx 12 1 10,Zs 4 4 11,Zv 5 12])
 .ret)) }
def mf_ref05_New:MFunc :=
 { n:=57,np:=2,res:=[.cell 4 4 true,.t 5],body :=
 (.seq (.ops [
 Zk 2 143002 0,Zk 3 143003 1,⟨some 4,none,.alloc 143004 [(ZI 0),.nil,(ZI 0),.nil]⟩,Zi 5 0])
 (.seq (.seq (.ops [
 Zu 14 2 2,⟨some 15,none,.call cq [(.t 14)]⟩,Zt 16 15,Zv 17 16,⟨some 18,some (17,false),.load 2 true (.t 3)⟩,⟨some 19,some (17,false),.call cq [(.t 18)]⟩,⟨some 20,some (17,false),.un .not (.t 19)⟩,Zp 21 17 20])
 (.cond (.t 21)
 (.seq (.ops [
 ⟨some 22,none,.build [(ZI 0),.nil,(ZI 0),.nil] []⟩,Zs 4 4 22,Zi 5 1])
 .ret)
 .skip))
 (.seq (.seq (.ops [
 Zf 23 0 3,Zl 24 1 23,Zc 25 .eql 24 0])
 (.cond (.t 25)
 (.seq (.ops [
 ⟨some 26,none,.build [(ZI 0),.nil,(ZI 0),.nil] []⟩,Zs 4 4 26,Zi 5 15])
 .ret)
 .skip))
 (.seq (.seq (.ops [
 Zf 27 0 3,Zl 28 1 27,Zc 29 .lss 28 0])
 (.cond (.t 29)
 (.seq (.ops [
 Zu 30 2 2,⟨some 31,none,.call kh [(.t 30)]⟩,Zs 2 2 31])
 (.ops [
 Zu 32 2 3,⟨some 33,none,.call kh [(.t 32)]⟩,Zs 2 3 33]))
 .skip))
 (.seq (.ops [
 Zu 35 2 2,Zu 36 2 3,⟨some 37,none,.call mS [(.t 35),(.t 36)]⟩,Zv 34 37,Zx 38 0 34,Zx 39 1 34,⟨some 6,none,.alloc 143006 [(ZI 0),.nil]⟩,Zs 2 6 38,Zv 7 39])
 (.seq (.ops [
 Zu 41 2 2,Zu 42 2 6,⟨some 43,none,.call kg [(.t 41),(.t 42)]⟩,Zv 40 43,Zx 44 0 40,Zx 45 1 40,Zx 46 2 40,⟨some 8,none,.alloc 143008 [(ZI 0),.nil]⟩,⟨some 9,none,.alloc 143009 [(ZI 0),.nil]⟩,Zs 2 8 44,Zs 2 9 45,Zv 10 46])
 (.seq (.ops [
 Zu 48 2 3,Zu 49 2 6,⟨some 50,none,.call kg [(.t 48),(.t 49)]⟩,Zv 47 50,Zx 51 0 47,Zx 52 1 47,Zx 53 2 47,⟨some 11,none,.alloc 143011 [(ZI 0),.nil]⟩,⟨some 12,none,.alloc 143012 [(ZI 0),.nil]⟩,Zs 2 11 51,Zs 2 12 52,Zv 13 53])
 (.seq (.ops [
 Zu 54 2 8,Zu 55 2 11,⟨some 56,none,.build [(ZI 0),.nil,(ZI 0),.nil] [(0,2,(.t 54)),(2,2,(.t 55))]⟩,Zs 4 4 56,Zi 5 0])
 .ret)))))))) }
noncomputable def CX:List Data→Option PRes:=FF (α:=Int × (List Int) × Int × (List Int)) (fun (s,l,s2,l2)=>([.agg [.int .i64 s,.sl (l.map aa)],.agg [.int .i64 s2,.sl (l2.map aa)]]:List Data)) (fun (s,l,s2,l2)=>aI (l.length≤1000000∧l2.length≤1000000) (.same (bB (fR (s,l) (s2,l2)))))
theorem DQ:∀ a b:Int × (List Int) × Int × (List Int),(fun (s,l,s2,l2)=>([.agg [.int .i64 s,.sl (l.map aa)],.agg [.int .i64 s2,.sl (l2.map aa)]]:List Data)) a=(fun (s,l,s2,l2)=>([.agg [.int .i64 s,.sl (l.map aa)],.agg [.int .i64 s2,.sl (l2.map aa)]]:List Data)) b→a=b:=by
  rintro⟨s1,l1,s21,l21⟩ ⟨s2,l2,s22,l22⟩ h;simp only[List.cons.injEq,Data.agg.injEq,Data.int.injEq,Data.sl.injEq] at h;exact ZF h.1.1.2 (ZF (ah ak _ _ h.1.2.1) (ZF h.2.1.1.2 (ah ak _ _ h.2.1.2.1)))
@[go_sem] theorem PR (s:Int) (l:List Int) (s2:Int) (l2:List Int) (hc:l.length≤1000000∧l2.length≤1000000):CX [.agg [.int .i64 s,.sl (l.map aa)],.agg [.int .i64 s2,.sl (l2.map aa)]]=some (.same (bB (fR (s,l) (s2,l2)))):=(aZ DQ (s,l,s2,l2)).trans (ap hc _)
theorem Og (T:Tab) (bQ:T cq=mkE mD) (tP:T kh=mkE CL) (tI:T mS=mkE C5) (tM:T kg=mkE DH) (s:Int) (l:List Int) (s2:Int) (l2:List Int) (hc:l.length≤1000000∧l2.length≤1000000) :
  wp T mf_ref05_New.body (bG mf_ref05_New.res (.same (bB (fR (s,l) (s2,l2))))) ⟨az [.dat (.agg [.int .i64 s,.sl (l.map aa)]),.dat (.agg [.int .i64 s2,.sl (l2.map aa)])],emp⟩:=by
 refine aq ?_;simp only[mf_ref05_New];obtain⟨hl1,hl2⟩:=hc
 by_cases hr:aJ (s,l)=true
 ·by_cases hr2:aJ (s2,l2)=true
  ·obtain⟨x,hx,e⟩:=(bm _).1 hr
   obtain⟨y,hy,e2⟩:=(bm _).1 hr2
   by_cases h0:y=0
   ·have hm:fR (s,l) (s2,l2)=(cb,15):=by
     unfold fR;rw[hr,hr2,e2,aU,if_pos (by rfl),if_pos h0]
    rw[hm]
    cases e
    cases e2;have hs:(y.sign==0)=true:=by rw[h0];rfl
    refine qI ?_
    repeat' (intro h<;>simp only[h,go_sem,go_sem_proc,ZG,bQ,tP,tI,tM,hr,hr2,hl1,hl2,hs,bB,ae,cb,Z5]<;>try refine qS ?_ ?_)
   ·have main:∀ p q:Int,p.natAbs<LIM→q.natAbs<LIM→0<q→∃ g:Raw,kp (aR p) (aR q)=(g,0)∧g.2.length≤1000000∧je (aR p) g=(aR (aaI p q).num,aR (p.fmod ((aaz p.natAbs q.natAbs:Nat):Int)),0)∧je (aR q) g=(aR (aaI p q).den,aR (q.fmod ((aaz p.natAbs q.natAbs:Nat):Int)),0):=by
     intro p q hp hq hq0;have hgl:=pK hp hq;have hgl':((aaz p.natAbs q.natAbs:Nat):Int).natAbs<LIM:=by rw[aaE];exact hgl
     have hg0:=uG (p:=p) (q:=q) (by omega);obtain⟨h1,h2⟩:=mR (p:=p) hq0;refine⟨aR ((aaz p.natAbs q.natAbs:Nat):Int),?_,eX hgl',?_,?_⟩
     ·unfold kp;rw[bK hp,bK hq,aU,aU];rfl
     ·rw[kA hp hgl' (by omega),h1]
     ·rw[kA hq hgl' (by omega),h2]
    have hs0:(y.sign==0)=false:=by simpa using h0
    rcases Int.lt_or_gt_of_ne h0 with hneg | hpos
    ·have hs1:decide (y.sign<0)=true:=by rw[aaq hneg];rfl
     obtain⟨⟨g1,g2⟩,hg,hgl,hd1,hd2⟩:=main (-x) (-y) (by omega) (by omega) (by omega)
     have hm:fR (s,l) (s2,l2)=(aj (aaI (-x) (-y)),0):=by
      rw[e,e2,iT hx hy h0,Rat.neg_divInt_neg]
     rw[hm];have hn1:iO (s,l)=aR (-x):=by unfold iO;rw[if_pos hr,e,aU]
     have hn2:iO (s2,l2)=aR (-y):=by unfold iO;rw[if_pos hr2,e2,aU]
     have hy1:s2=y.sign:=congrArg Prod.fst e2;have hl3:(aR (-x)).2.length≤1000000:=eX (by omega);have hl4:(aR (-y)).2.length≤1000000:=eX (by omega);clear e e2;unfold aj;generalize aR (-x)=X at *;generalize aR (-y)=Y at *;obtain⟨x1,x2⟩:=X;obtain⟨y1,y2⟩:=Y;rw[←hy1] at hs0 hs1;refine qI ?_
     repeat' (intro h<;>simp only[h,go_sem,go_sem_proc,ZG,bQ,tP,tI,tM,hr,hr2,hl1,hl2,hs0,hs1,hn1,hn2,hl3,hl4,hg,hgl,hd1,hd2,bB,ae,dR,dj,bF]<;>try refine qS ?_ ?_)
    ·have hs1:decide (y.sign<0)=false:=by rw[aay hpos];rfl
     obtain⟨⟨g1,g2⟩,hg,hgl,hd1,hd2⟩:=main x y hx hy hpos
     have hm:fR (s,l) (s2,l2)=(aj (aaI x y),0):=by
      rw[e,e2,iT hx hy h0]
     rw[hm];have hy1:s2=y.sign:=congrArg Prod.fst e2;rw[←e] at hg hd1;rw[←e2] at hg hd2;rw[←hy1] at hs0 hs1;unfold aj;refine qI ?_
     repeat' (intro h<;>simp only[h,go_sem,go_sem_proc,ZG,bQ,tP,tI,tM,hr,hr2,hl1,hl2,hs0,hs1,hg,hgl,hd1,hd2,bB,ae,dR,dj,bF]<;>try refine qS ?_ ?_)
  ·have hr2:aJ (s2,l2)=false:=by simpa using hr2
   have hm:fR (s,l) (s2,l2)=(cb,1):=by unfold fR;rw[hr2,aai];rfl
   rw[hm];refine qI ?_
   repeat' (intro h<;>simp only[h,go_sem,go_sem_proc,ZG,bQ,tP,tI,tM,hr,hr2,hl1,hl2,bB,ae,cb,Z5]<;>try refine qS ?_ ?_)
 ·have hr:aJ (s,l)=false:=by simpa using hr
  have hm:fR (s,l) (s2,l2)=(cb,1):=by unfold fR;rw[hr,aaj];rfl
  rw[hm];refine qI ?_
  repeat' (intro h<;>simp only[h,go_sem,go_sem_proc,ZG,bQ,tP,tI,tM,hr,hl1,hl2,bB,ae,cb,Z5]<;>try refine qS ?_ ?_)
noncomputable def IE:List Data→Option PRes:=FF (α:=Int × Int) (fun (p,q)=>([.int .i64 p,.int .i64 q]:List Data)) (fun (p,q)=>aI (cn p∧cn q) (.same (bB (fR (aR p) (aR q)))))
theorem Hl:∀ a b:Int × Int,(fun (p,q)=>([.int .i64 p,.int .i64 q]:List Data)) a=(fun (p,q)=>([.int .i64 p,.int .i64 q]:List Data)) b→a=b:=by
  rintro⟨p1,q1⟩ ⟨p2,q2⟩ h;simp only[List.cons.injEq,Data.int.injEq,Data.agg.injEq,Data.sl.injEq,Data.bool.injEq,Data.str.injEq,Data.ptr.injEq,Data.tup.injEq,Prod.mk.injEq,true_and,and_true] at h ⊢
  first | exact h | simpa [aap,and_assoc] using h | grind
@[go_sem] theorem Rq (p:Int) (q:Int) (hc:cn p∧cn q):IE [.int .i64 p,.int .i64 q]=some (.same (bB (fR (aR p) (aR q)))):=(aZ Hl (p,q)).trans (ap hc _)
theorem Qi (T:Tab) (RD:T lh=mkE Hu) (Oa:T nf=mkE CX) (p:Int) (q:Int) (hc:cn p∧cn q) :
  wp T mf_ref05_Of.body (bG mf_ref05_Of.res (.same (bB (fR (aR p) (aR q))))) ⟨az [.dat (.int .i64 p),.dat (.int .i64 q)],emp⟩:=by
 refine aq ?_;simp only[mf_ref05_Of];obtain⟨h1,h2⟩:=hc;have l1:(aR p).2.length≤1000000:=eX (jy h1);have l2:(aR q).2.length≤1000000:=eX (jy h2);generalize hP:aR p=P at *;generalize hQ:aR q=Q at *;obtain⟨x1,x2⟩:=P;obtain⟨y1,y2⟩:=Q;refine qI ?_
 repeat' (intro h<;>simp only[h,go_sem,go_sem_proc,ZG,RD,Oa,h1,h2,hP,hQ,l1,l2,bF,bB,ae]<;>try refine qS ?_ ?_)


theorem rb {α:Type} {p:α→Bool} {l:List α} {i:Nat} {x:α} (hx:l[i]?=some x):(l.take (i+1)).all p=((l.take i).all p&&p x):=by
 rw[aaJ,hx,List.all_append];simp
theorem Es {α:Type} {p:α→Bool} {l:List α} {i:Nat} {x:α} (hx:l[i]?=some x) (h:p x=false):l.all p=false:=by
 rw[List.all_eq_false];exact⟨x,aaK hx,by simp [h]⟩
end Go.Mini
namespace Go.Mini
open Go
variable {P:Program} {A:Nat→Prop} {w w':World} {B B':Lay} {mem mem':Mem}
structure iL (P:Program) (f:FuncId) (E:List MV→Mem→Option Eff):Prop where
 real:Real P f
 run:∀ args mem eff,E args mem=some eff→∀ A w B vs,MemRel A w B mem→RL w (OA A B) B args vs→HE P f vs A w B mem eff
def qU (res:List ns) (R:MV→Mem→Prop):bP→St→Prop
 | .exit _,_=>False
 | .normal,st=>∃ m,gk st res=some m∧R m st.mem
 | .ret,st=>∃ m,gk st res=some m∧R m st.mem
@[go_sem] theorem PM {res:List ns} {st:St} (R:MV→Mem→Prop) (id:Nat):qU res R (.exit id) st=False:=_root_.id rfl
@[go_sem] theorem Ng {res:List ns} {st:St} (R:MV→Mem→Prop):qU res R .normal st=∃ m,gk st res=some m∧R m st.mem:=_root_.id rfl
@[go_sem] theorem Qj {res:List ns} {st:St} (R:MV→Mem→Prop):qU res R .ret st=∃ m,gk st res=some m∧R m st.mem:=_root_.id rfl
theorem rp {mf:MFunc} {R:MV→Mem→Prop} {e:bP} {st:St} (h:qU mf.res R e st):Kw mf R e st:=by
 cases e with
 | exit id=>exact h
 | normal=>exact h
 | ret=>exact h
theorem yd {kb : Nat} {own : List Nat} {f : FuncId} {fn : Func} {mf : MFunc} (hf : P.funcs[f]? = some fn) (hname : (fn.name == "runtime.NumGoroutine") = false) (htr : jV P kb own fn = some mf) : Real P f := by
 cases hb:fn.body with
 | none=>simp [jV,hb] at htr
 | some c=>exact⟨fn,c,hf,hb,hname⟩
def mkQ (Q:List MV→Mem→Option (MV→Mem→Prop)) (args:List MV) (mem:Mem):Option Eff:=(Q args mem).map .rel
@[go_sem] theorem Sz (Q:List MV→Mem→Option (MV→Mem→Prop)) (args:List MV) (mem:Mem):mkQ Q args mem=(Q args mem).map .rel:=_root_.id rfl
theorem rX {T : Tab} {kb : Nat} {own : List Nat} (hT : j8 P T) (hm : P.follows .mixedOrders = true) {f : FuncId} {fn : Func} {mf : MFunc} (hf : P.funcs[f]? = some fn) (hname : (fn.name == "runtime.NumGoroutine") = false) (htr : jV P kb own fn = some { mf with body := erase mf.body })
  {Q:List MV→Mem→Option (MV→Mem→Prop)} (h:∀ args mem R,Q args mem=some R→args.length≤mf.n∧wp T mf.body (qU mf.res R) ⟨az args,mem⟩):iL P f (mkQ Q):=by
 refine⟨yd hf hname htr,fun args mem eff hE A w B vs hmr hv=>?_⟩
 unfold mkQ at hE;rw[aaL] at hE;obtain⟨R,hR,rfl⟩:=hE;obtain⟨hlen,hwp⟩:=h args mem R hR;refine Calls.mono (kz (Post:=R) hT hm hf htr hlen (fun e st hk=>rp hk) hwp hmr hv) fun e w' he=>?_
 obtain⟨v,m,mem',B',rfl,hs,hv',hp⟩:=he;exact⟨v,m,mem',B',rfl,hs,hv',hp⟩
inductive jb (J:Key→Prop):MV→Prop
 | dat {d:Data}:jb J (.dat d)
 | nil:jb J .nil
 | ref {k g sz off len:Nat} (h:¬ J k):jb J (.ref k g sz off len)
 | ptr {k g off:Nat} (h:¬ J k):jb J (.ptr k g off)
 | clo {f:FuncId} {caps:List MV} (h:∀ (i:Nat) (m:MV),caps[i]?=some m→jb J m):jb J (.clo f caps)
 | agg {cs:List MV} (h:∀ (i:Nat) (m:MV),cs[i]?=some m→jb J m):jb J (.agg cs)
 | tup {cs:List MV} (h:∀ (i:Nat) (m:MV),cs[i]?=some m→jb J m):jb J (.tup cs)
 | no:jb J .no
 | undef:jb J .undef
theorem HB {J:Key→Prop} {O:Nat→Prop} (hJ:∀ k,J k→B k=none) {m:MV} {v:Value} (h:VR w O B m v):jb J m:=by
 induction h with
 | dat h=>exact .dat
 | nil=>exact .nil
 | ref he hg hv=>exact .ref fun hj=>by rw[hJ _ hj] at he;cases he
 | ptr he hg hv=>exact .ptr fun hj=>by rw[hJ _ hj] at he;cases he
 | clo hl hd ih=>exact .clo fun i m hi=>ih i m _ hi (ZD (by have hlt:=(List.getElem?_eq_some_iff.1 hi).1;omega))
 | agg hl hd ih=>exact .agg fun i m hi=>ih i m _ hi (ZD (by have hlt:=(List.getElem?_eq_some_iff.1 hi).1;omega))
 | tup hl hd ih=>exact .tup fun i m hi=>ih i m _ hi (ZD (by have hlt:=(List.getElem?_eq_some_iff.1 hi).1;omega))
 | no=>exact .no
 | undef=>exact .undef
open Classical in
noncomputable def my (J:Key→Prop) (B:Lay):Lay:=fun k=>if J k then none else B k
theorem kt {J:Key→Prop} {b:Nat} (h:Own (my J B) b):Own B b:=by
 obtain⟨k,e,he,hb⟩:=h;unfold my at he
 split at he
 ·cases he
 ·exact⟨k,e,he,hb⟩
theorem MT {J:Key→Prop} {m:MV} {v:Value} (h:VR w (OA A B) B m v) (hc:jb J m):VR w (OA A (my J B)) (my J B) m v:=by
 have at_:∀ {k:Key} {e:Bk},¬ J k→B k=some e→my J B k=some e:=fun hk he=>by unfold my;rw[if_neg hk];exact he
 induction h with
 | dat h=>exact .dat (h.less fun b hb=>hb.imp kt id)
 | nil=>exact .nil
 | ref he hg hv=>cases hc with | ref hk=>exact .ref (at_ hk he) hg hv
 | ptr he hg hv=>cases hc with | ptr hk=>exact .ptr (at_ hk he) hg hv
 | clo hl hd ih=>cases hc with | clo hc=>exact .clo hl fun i d v hi hv=>ih i d v hi hv (hc i d hi)
 | agg hl hd ih=>cases hc with | agg hc=>exact .agg hl fun i d v hi hv=>ih i d v hi hv (hc i d hi)
 | tup hl hd ih=>cases hc with | tup hc=>exact .tup hl fun i d v hi hv=>ih i d v hi hv (hc i d hi)
 | no=>exact .no
 | undef=>exact .undef
theorem StepOK.drop {J:Key→Prop} {mem'':Mem} (h0:MemRel A w B mem) (hJ:∀ k,J k→mem k=none) (h:StepOK A w B w' B' mem') (h1:∀ k,J k→mem'' k=none) (h2:∀ k,¬ J k→mem'' k=mem' k)
  (hc:∀ k g cs,mem'' k=some (g,cs)→∀ m∈cs,(∃ d,m = .dat d)∨∃ k0 g0 cs0,mem k0=some (g0,cs0)∧m∈cs0):StepOK A w B w' (my J B') mem'':=by
 have hB:∀ k,J k→B k=none:=fun k hk=>h0.dom k (hJ k hk)
 have at_:∀ {k:Key},¬ J k→my J B' k=B' k:=fun hk=>by unfold my;rw[if_neg hk]
 have no_:∀ {k:Key},J k→my J B' k=none:=fun hk=>by unfold my;rw[if_pos hk]
 refine⟨⟨fun k hk=>?_,fun k k' e e' b he he' hb hb'=>?_,fun b ha ho=>h.mr.sep b ha (kt ho),h.mr.lt,fun k g cs hk=>?_⟩,⟨h.tr.size,fun b hb ho=>?_,fun k e he=>?_⟩,h.fr,fun b hb=>h.fresh b (kt hb)⟩
 ·by_cases hj:J k
  ·exact no_ hj
  ·rw[at_ hj];exact h.mr.dom k (by rw[←h2 k hj];exact hk)
 ·by_cases hj:J k
  ·rw[no_ hj] at he;cases he
  ·by_cases hj':J k'
   ·rw[no_ hj'] at he';cases he'
   ·rw[at_ hj] at he
    rw[at_ hj'] at he';exact h.mr.inj k k' e e' b he he' hb hb'
 ·by_cases hj:J k
  ·rw[h1 k hj] at hk;cases hk
  ·obtain⟨e,he,hg,hn,hb⟩:=h.mr.blk k g cs (by rw[←h2 k hj];exact hk)
   refine⟨e,by rw[at_ hj];exact he,hg,hn,fun b hbb=>?_⟩
   obtain⟨vs,T,hh,hz,hle,hr⟩:=hb b hbb;refine⟨vs,T,hh,hz,hle,fun i m hi=>?_⟩
   obtain⟨v,hv,hvr⟩:=hr i m hi;refine⟨v,hv,MT hvr ?_⟩;rcases hc k g cs hk m (aaK hi) with ⟨d,rfl⟩ | ⟨k0,g0,cs0,hm0,hmem⟩
   ·exact .dat
   ·obtain⟨e0,he0,hg0,hn0,hb0⟩:=h0.blk k0 g0 cs0 hm0
    cases hbk:e0.blk with
    | none=>rw[hn0 hbk] at hmem;cases hmem
    | some b0 =>
     obtain⟨vs0,T0,_,_,_,hr0⟩:=hb0 b0 hbk;obtain⟨i0,hi0⟩:=List.mem_iff_getElem?.1 hmem;obtain⟨v0,_,hvr0⟩:=hr0 i0 m hi0;exact HB hB hvr0
 ·obtain⟨h3,h4⟩:=h.tr.old b hb ho
  exact⟨h3,fun hx=>h4 (kt hx)⟩
 ·have hj:¬ J k:=fun hj=>by rw[hB k hj] at he;cases he
  rw[at_ hj];exact h.tr.key k e he
def mkU (U:List MV→Mem→Option (Data × Key × Nat × Nat × Data)) (args:List MV) (mem:Mem):Option Eff:=(U args mem).map fun x => .upd x.1 x.2.1 x.2.2.1 x.2.2.2.1 (.dat x.2.2.2.2)
@[go_sem] theorem SY (U:List MV→Mem→Option (Data × Key × Nat × Nat × Data)) (args:List MV) (mem:Mem):mkU U args mem=(U args mem).map fun x => .upd x.1 x.2.1 x.2.2.1 x.2.2.2.1 (.dat x.2.2.2.2):=_root_.id rfl
theorem FO {T : Tab} {kb : Nat} {own : List Nat} (hT : j8 P T) (hm : P.follows .mixedOrders = true) {f : FuncId} {fn : Func} {mf : MFunc} (hf : P.funcs[f]? = some fn) (hname : (fn.name == "runtime.NumGoroutine") = false) (htr : jV P kb own fn = some { mf with body := erase mf.body })
  (J:Key→Prop) {U:List MV→Mem→Option (Data × Key × Nat × Nat × Data)}
  (h:∀ args mem r k g i d,U args mem=some (r,k,g,i,d)→args.length≤mf.n∧(∀ j,J j→mem j=none)∧¬ J k∧(∃ cs,mem k=some (g,cs)) ∧
   wp T mf.body (qU mf.res fun m mem'=>toD 6 emp m=some r∧∀ j,¬ J j→mem' j=aB mem k g ((fH mem k).set i (.dat d)) j) ⟨az args,mem⟩):iL P f (mkU U):=by
 refine⟨yd hf hname htr,fun args mem eff hE A w B vs hmr hv=>?_⟩
 unfold mkU at hE;rw[aaL] at hE;obtain⟨⟨r,k,g,i,d⟩,hU,rfl⟩:=hE;obtain⟨hlen,hJ,hk,⟨cs,hcs⟩,hwp⟩:=h args mem r k g i d hU;refine Calls.mono (kz (Post:=fun m mem'=>toD 6 emp m=some r∧∀ j,¬ J j→mem' j=aB mem k g ((fH mem k).set i (.dat d)) j) hT hm hf htr hlen (fun e st hk=>rp hk) hwp hmr hv) fun e w' he=>?_
 obtain⟨v,m,mem',B',rfl,hs,hv',hd,hmem⟩:=he;refine⟨v,my J B',rfl,hs.drop hmr hJ (fun j hj=>?_) (fun j hj=>(hmem j hj).symm) ?_,.dat ((rB 6 m v r hd hv').less fun b hb=>hb.imp kt id)⟩
 ·have:j≠k:=fun e=>hk (e ▸ hj)
  simp only[aB,this,if_false];exact hJ j hj
 ·intro k2 g2 cs2 h2 m hm2
  by_cases hk2:k2=k
  ·subst hk2
   simp only[aB,if_true,Option.some.injEq,Prod.mk.injEq] at h2;obtain⟨-,rfl⟩:=h2;rcases aaM hm2 with hx | rfl
   ·refine .inr ⟨k2,g,cs,hcs,?_⟩
    simpa [fH,hcs] using hx
   ·exact .inl ⟨d,rfl⟩
  ·simp only[aB,hk2,if_false] at h2
   exact .inr ⟨k2,g2,cs2,h2,hm2⟩
def orE:Option Eff→Option Eff→Option Eff
 | some x,_=>some x
 | none,e=>e
@[go_sem] theorem Q1 (x:Eff) (e:Option Eff):orE (some x) e=some x:=_root_.id rfl
@[go_sem] theorem Qy (e:Option Eff):orE none e=e:=_root_.id rfl
def AX (PT:FuncId→Option (List Data→Option PRes)) (ET:FuncId→Option (List MV→Mem→Option Eff)):Tab:=fun f args mem=>match ET f with
 | some E=>orE (E args mem) (mkT PT f args mem)
 | none=>mkT PT f args mem
theorem aw {PT:FuncId→Option (List Data→Option PRes)} {ET:FuncId→Option (List MV→Mem→Option Eff)} (h:∀ f F,PT f=some F→aT P f F) (hr:∀ f E,ET f=some E→iL P f E):j8 P (AX PT ET):=by
 intro f args mem eff hT;unfold AX at hT
 split at hT
 ·rename_i E hE
  have hs:=hr f E hE
  cases hx:E args mem with
  | none =>
   rw[hx] at hT;exact Ia h f args mem eff hT
  | some y =>
   rw[hx] at hT
   cases hT;exact⟨hs.real,fun A w B vs hmr hv=>hs.run args mem eff hx A w B vs hmr hv⟩
 ·exact Ia h f args mem eff hT
theorem RSpec.toE {f:FuncId} {G:List MV→Mem→Option (MV × Mem)} (h:RSpec P f G):iL P f (mkG G):=by
 refine⟨h.real,fun args mem eff hE A w B vs hmr hv=>?_⟩
 unfold mkG at hE;rw[aaL] at hE;obtain⟨x,hx,rfl⟩:=hE;exact h.run args mem x hx A w B vs hmr hv
section
variable {PT:FuncId→Option (List Data→Option PRes)} {ET:FuncId→Option (List MV→Mem→Option Eff)} {f:FuncId}
theorem ai {F:List Data→Option PRes} (h:ET f=none) (h':PT f=some F):AX PT ET f=mkE F:=by
 funext args mem
 unfold AX;rw[h];exact congrFun (congrFun (IH h') args) mem
theorem nL {E:List MV→Mem→Option Eff} (h:ET f=some E) (h':PT f=none):AX PT ET f=E:=by
 funext args mem
 unfold AX mkT;rw[h,h'];dsimp only
 cases E args mem<;>rfl
theorem oe {F:List Data→Option PRes} {G:List MV→Mem→Option (MV × Mem)} (h:ET f=some (mkG G)) (h':PT f=some F):AX PT ET f=yr F G:=by
 funext args mem
 unfold AX;rw[h];unfold yr mkG;rw[show mkT PT f args mem=mkE F args mem from congrFun (congrFun (IH h') args) mem];dsimp only
 cases G args mem<;>rfl
end
def ETl (l:List (FuncId × (List MV→Mem→Option Eff))):FuncId→Option (List MV→Mem→Option Eff):=fun f=>(l.find? fun p=>p.1==f).map (·.2)
theorem aE {l:List (FuncId × (List MV→Mem→Option Eff))} (h:∀ p∈l,iL P p.1 p.2):∀ f G,ETl l f=some G→iL P f G:=by
 intro f F hf;unfold ETl at hf;rw[aaL] at hf;obtain⟨p,hp,rfl⟩:=hf;have h1:=List.mem_of_find?_eq_some hp;have h2:=List.find?_some hp;have h3:p.1=f:=by simpa using h2
 exact h3 ▸ h p h1
theorem av:∀ p∈([]:List (FuncId × (List MV→Mem→Option Eff))),iL P p.1 p.2:=by simp
theorem eL {f:FuncId} {F:List MV→Mem→Option Eff} {l:List (FuncId × (List MV→Mem→Option Eff))} (h:iL P f F) (hl:∀ p∈l,iL P p.1 p.2):∀ p∈(f,F)::l,iL P p.1 p.2:=by
 intro p hp;rcases List.mem_cons.1 hp with rfl | hp
 ·exact h
 ·exact hl p hp
open Classical in
noncomputable def QQ {α:Type} (M:α→List MV→Mem→Prop) (R:α→Mem→MV→Mem→Prop):List MV→Mem→Option (MV→Mem→Prop):=fun args mem=>if h:∃ a,M a args mem then some (R (Classical.choose h) mem) else none
theorem QC {α:Type} {M:α→List MV→Mem→Prop} {R:α→Mem→MV→Mem→Prop} (uniq:∀ a b args mem,M a args mem→M b args mem→a=b) {a:α} {args:List MV} {mem:Mem} (h:M a args mem):QQ M R args mem=some (R a mem):=by
 have hx:∃ b,M b args mem:=⟨a,h⟩;unfold QQ;rw[dif_pos hx,uniq _ _ _ _ (aaN hx) h]
theorem CW {α:Type} {M:α→List MV→Mem→Prop} {R:α→Mem→MV→Mem→Prop} {args:List MV} {mem:Mem} {x:MV→Mem→Prop} (h:QQ M R args mem=some x):∃ a,M a args mem∧x=R a mem:=by
 unfold QQ at h
 split at h
 ·rename_i hx
  exact⟨_,aaN hx,(Option.some.inj h).symm⟩
 ·cases h
end Go.Mini
namespace Go.Mini
open Go
set_option maxRecDepth 10000
set_option maxHeartbeats 2000000
noncomputable def xS:List Data→Option PRes:=FF (α:=Int × (List Int) × Int × (List Int)) (fun (s,l,s2,l2)=>([.agg [.int .i64 s,.sl (l.map aa),.int .i64 s2,.sl (l2.map aa)]]:List Data)) (fun (s,l,s2,l2)=>some (.same (.bool (s==0))))
theorem Dn:∀ a b:Int × (List Int) × Int × (List Int),(fun (s,l,s2,l2)=>([.agg [.int .i64 s,.sl (l.map aa),.int .i64 s2,.sl (l2.map aa)]]:List Data)) a=(fun (s,l,s2,l2)=>([.agg [.int .i64 s,.sl (l.map aa),.int .i64 s2,.sl (l2.map aa)]]:List Data)) b→a=b:=by
  rintro⟨s1,l1,s21,l21⟩ ⟨s2,l2,s22,l22⟩ h;simp only[List.cons.injEq,Data.agg.injEq,Data.int.injEq,Data.sl.injEq] at h;exact ZF h.1.1.2 (ZF (ah ak _ _ h.1.2.1) (ZF h.1.2.2.1.2 (ah ak _ _ h.1.2.2.2.1)))
@[go_sem] theorem P4 (s:Int) (l:List Int) (s2:Int) (l2:List Int):xS [.agg [.int .i64 s,.sl (l.map aa),.int .i64 s2,.sl (l2.map aa)]]=some (.same (.bool (s==0))):=aZ Dn (s,l,s2,l2)
theorem w_zero (T:Tab)  (s:Int) (l:List Int) (s2:Int) (l2:List Int) :
  wp T mf_linear_zero.body (bG mf_linear_zero.res (.same (.bool (s==0)))) ⟨az [.dat (.agg [.int .i64 s,.sl (l.map aa),.int .i64 s2,.sl (l2.map aa)])],emp⟩:=by
 refine aq ?_;simp only[mf_linear_zero];refine qI ?_
 repeat' (intro h<;>simp only[h,go_sem,go_sem_proc,ZG]<;>try refine qS ?_ ?_)
def mN (args:List MV) (mem:Mem):Option (Data × Key × Nat × Nat × Data) :=
 match args with
 | [.ptr k g 0,.dat (.agg [.int .i64 s,.sl l,.int .i64 s2,.sl l2]),.dat (.int .i64 e)]=>match mem k,mem 168004,mem 168006 with
  | some (g',[_,_,.dat (.bool c)]),none,none=>if g'=g∧k≠168004∧k≠168006 then some (.agg [.int .i64 s,.sl l,.int .i64 s2,.sl l2],k,g,2,.bool (c||e != 0)) else none
  | _,_,_=>none
 | _=>none
def EZ (j:Key):Prop:=j=168004∨j=168006
theorem Oh (T:Tab) (args:List MV) (mem:Mem) (r:Data) (k g i:Nat) (d:Data) (h:mN args mem=some (r,k,g,i,d)) :
  args.length≤19∧(∀ j,EZ j→mem j=none)∧¬ EZ k∧(∃ cs,mem k=some (g,cs)) ∧
   wp T mf_linear_matrix_note.body (qU mf_linear_matrix_note.res fun m mem'=>toD 6 emp m=some r∧∀ j,¬ EZ j→mem' j=aB mem k g ((fH mem k).set i (.dat d)) j) ⟨az args,mem⟩:=by
 unfold mN at h
 split at h
 ·rename_i k0 g0 s l s2 l2 e
  split at h
  ·rename_i g1 a b c hm h4 h6
   split at h
   ·rename_i hg
    obtain⟨rfl,n4,n6⟩:=hg;simp only[Option.some.injEq,Prod.mk.injEq] at h;obtain⟨rfl,rfl,rfl,rfl,rfl⟩:=h;refine⟨by simp,?_,?_,⟨_,hm⟩,?_⟩
    ·rintro j (rfl | rfl)
     ·exact h4
     ·exact h6
    ·rintro (h | h)
     ·exact n4 h
     ·exact n6 h
    ·have hfin:∀ x:Bool,fH mem k0=[a,b,.dat (.bool c)]:=fun _=>by simp only[fH,hm]
     have n4':(k0=168004)=False:=eq_false n4;have n6':(k0=168006)=False:=eq_false n6;have n4s:(168004=k0)=False:=eq_false (Ne.symm n4);have n6s:(168006=k0)=False:=eq_false (Ne.symm n6);refine aq ?_;simp only[mf_linear_matrix_note]
     cases c
     ·simp only[go_sem,go_sem_proc,ZG,hm,h4,h6,n4',n6',n4s,n6s]
      repeat' (first|refine qS ?_ ?_|fail)<;>intro h<;>simp only[h,go_sem,go_sem_proc,ZG,hm,h4,h6,n4',n6',n4s,n6s]
      refine⟨_,rfl,by first | rfl | simp [go_sem,toD],fun j hj=>?_⟩
      have j4:j≠168004:=fun h=>hj (.inl h)
      have j6:j≠168006:=fun h=>hj (.inr h)
      by_cases hjk:j=k0<;>simp [aB,fH,hm,j4,j6,hjk,n4,n6,bne]
     ·simp only[go_sem,go_sem_proc,ZG,hm,h4,h6,n4',n6',n4s,n6s]
      repeat' (first|refine qS ?_ ?_|fail)<;>intro h<;>simp only[h,go_sem,go_sem_proc,ZG,hm,h4,h6,n4',n6',n4s,n6s]
      refine⟨_,rfl,by first | rfl | simp [go_sem,toD],fun j hj=>?_⟩
      have j4:j≠168004:=fun h=>hj (.inl h)
      have j6:j≠168006:=fun h=>hj (.inr h)
      by_cases hjk:j=k0<;>simp [aB,fH,hm,j4,j6,hjk,n4,n6,bne]
   ·cases h
  ·cases h
 ·cases h
abbrev MR:=Nat × Nat × List aM
def ce (N:Nat) (rows:List MR):List MV:=rows.map fun x => .ref (x.1+900000) x.2.1 4 0 (N+1)
structure MatAt (go N:Nat) (rows:List MR) (bad:Bool) (mem:Mem):Prop where
 m:mem 129015=some (0,[.ref 129035 go 1 0 N,.dat (.int .i64 N),.dat (.bool bad)])
 o:mem 129035=some (go,ce N rows)
 r:∀ x∈rows,mem (x.1+900000)=some (x.2.1,ay ae x.2.2)
structure MatOK (N:Nat) (rows:List MR):Prop where
 len:rows.length=N
 nd:(rows.map (·.1)).Nodup
 row:∀ x∈rows,x.2.2.length=N+1∧∀ f∈x.2.2,okF f
def foreign (k:Nat):Prop:=k<900000∧k≠129015∧k≠129035∧k≠148008∧k≠148010∧k≠148013
def PS (mem0:Mem) (go N:Nat) (rows:List MR) (bad:Bool) (mem:Mem):Prop:=MatAt go N rows bad mem∧∀ k,foreign k→mem k=mem0 k
section
variable {mem0 mem:Mem} {go N:Nat} {rows:List MR} {bd:Bool}
theorem PS.flag (b:Bool) (h:PS mem0 go N rows bd mem):PS mem0 go N rows b (aB mem 129015 0 [.ref 129035 go 1 0 N,.dat (.int .i64 N),.dat (.bool b)]):=by
 refine⟨⟨by simp [aB],by simp [aB,h.1.o],fun x hx=>?_⟩,fun k hk=>?_⟩
 ·rw[←h.1.r x hx]
  exact if_neg (show ¬ ((x.1+900000:Nat)=129015) by omega)
 ·rw[←h.2 k hk]
  exact if_neg hk.2.1
theorem PS.own {k g:Nat} {cs:List MV} (hk:k=148008∨k=148010∨k=148013) (h:PS mem0 go N rows bd mem):PS mem0 go N rows bd (aB mem k g cs):=by
 have hne:∀ j:Nat,j≠k→aB mem k g cs j=mem j:=fun j hj=>if_neg hj
 refine⟨⟨by rw[hne _ (by omega)];exact h.1.m,by rw[hne _ (by omega)];exact h.1.o,fun x hx=>by rw[hne _ (by omega)];exact h.1.r x hx⟩,fun j hj=>?_⟩
 have:=hj.2;rw[hne _ (by omega)];exact h.2 j hj
theorem PS.set {i:Nat} {x:MR} (hok:MatOK N rows) (hi:rows[i]?=some x) (l:List aM) (h:PS mem0 go N rows bd mem):PS mem0 go N (rows.set i (x.1,x.2.1,l)) bd (aB mem (x.1+900000) x.2.1 (ay ae l)):=by
 have hne:∀ j:Nat,j≠x.1+900000→aB mem (x.1+900000) x.2.1 (ay ae l) j=mem j:=fun j hj=>if_neg hj
 obtain⟨hlt,hxi⟩:=List.getElem?_eq_some_iff.1 hi;refine⟨⟨by rw[hne _ (by omega)];exact h.1.m,?_,fun y hy=>?_⟩,fun j hj=>?_⟩
 ·rw[hne _ (by omega),h.1.o]
  congr 2
  unfold ce;apply aaO;intro j;rw[ZN,ZN,aaP]
  by_cases hij:i=j
  ·subst hij
   rw[if_pos rfl,if_pos hlt,hi]
   rfl
  ·rw[if_neg hij]
 ·obtain⟨j,hj⟩:=List.mem_iff_getElem?.1 hy
  rw[aaP] at hj
  by_cases hij:i=j
  ·subst hij
   rw[if_pos rfl,if_pos hlt] at hj
   cases hj;simp [aB]
  ·rw[if_neg hij] at hj
   have hne2:y.1≠x.1:=by
    intro he;have h1:(rows.map (·.1))[j]?=some y.1:=by rw[ZN,hj];rfl
    have h2:(rows.map (·.1))[i]?=some y.1:=by rw[ZN,hi,he];rfl
    have hl:i<(rows.map (·.1)).length:=by rw[ZH];exact hlt
    exact hij ((aaQ hl hok.nd).1 (h2.trans h1.symm))
   rw[hne (y.1+900000) (by omega)];exact h.1.r y (aaK hj)
 ·have:=hj.1
  rw[hne j (by omega)];exact h.2 j hj
theorem PS.swap {i j:Nat} {a b:MR} (hi:rows[i]?=some a) (hj:rows[j]?=some b) (h:PS mem0 go N rows bd mem):PS mem0 go N ((rows.set i b).set j a) bd (aB (aB mem 129035 go (ce N (rows.set i b))) 129035 go (ce N ((rows.set i b).set j a))):=by
 have hne:∀ k:Nat,k≠129035→aB (aB mem 129035 go (ce N (rows.set i b))) 129035 go (ce N ((rows.set i b).set j a)) k=mem k:=fun k hk=>by simp [aB,hk]
 refine⟨⟨by rw[hne _ (by omega)];exact h.1.m,by simp [aB],fun x hx=>?_⟩,fun k hk=>?_⟩
 ·rw[hne _ (by omega)]
  apply h.1.r;rcases aaM hx with hx | rfl
  ·rcases aaM hx with hx | rfl
   ·exact hx
   ·exact aaK hj
  ·exact aaK hi
 ·rw[hne _ hk.2.2.1]
  exact h.2 k hk
theorem MatOK.set {i:Nat} {x:MR} (hok:MatOK N rows) (hi:rows[i]?=some x) {l:List aM} (hl:l.length=N+1) (hf:∀ f∈l,okF f):MatOK N (rows.set i (x.1,x.2.1,l)):=by
 obtain⟨hlt,hxi⟩:=List.getElem?_eq_some_iff.1 hi;refine⟨by rw[ZU];exact hok.len,?_,fun y hy=>?_⟩
 ·have:(rows.set i (x.1,x.2.1,l)).map (·.1)=rows.map (·.1):=by
   rw[aaR];apply aaO;intro j;rw[aaP]
   by_cases hij:i=j
   ·subst hij
    rw[if_pos rfl,ZH,if_pos hlt,ZN,hi];rfl
   ·rw[if_neg hij]
  rw[this];exact hok.nd
 ·rcases aaM hy with hy | rfl
  ·exact hok.row y hy
  ·exact⟨hl,hf⟩
theorem Dd {α:Type} {l:List α} {i j:Nat} {a b:α} (hi:l[i]?=some a) (hj:l[j]?=some b) (h:l.Nodup):((l.set i b).set j a).Nodup:=by
 obtain⟨hil,hia⟩:=List.getElem?_eq_some_iff.1 hi;obtain⟨hjl,hjb⟩:=List.getElem?_eq_some_iff.1 hj
 have main:∀ p q,p<q→q<l.length→((l.set i b).set j a)[p]?≠((l.set i b).set j a)[q]?:=by
  intro p q hpq hq;rw[aaP,aaP,aaP,aaP];have inj:∀ p q,p<l.length→l[p]?=l[q]?→p=q:=fun p q hp he=>(aaQ hp h).1 he
  simp only[ZU]
  by_cases h1:j=p
  ·subst h1
   have h2:¬ j=q:=by omega
   rw[if_pos rfl,if_pos hjl,if_neg h2]
   by_cases h3:i=q
   ·subst h3
    rw[if_pos rfl,if_pos hil];intro he;rw[←hi,←hj] at he;have:=inj _ _ hil he;omega
   ·rw[if_neg h3,←hi]
    intro he;exact h3 (inj _ _ hil he)
  ·rw[if_neg h1]
   by_cases h3:i=p
   ·subst h3
    rw[if_pos rfl,if_pos hil]
    by_cases h2:j=q
    ·subst h2
     rw[if_pos rfl,if_pos hjl,←hi,←hj];intro he;have:=inj _ _ hjl he;omega
    ·rw[if_neg h2,if_neg (by omega),←hj]
     intro he;exact h2 (inj _ _ hjl he)
   ·rw[if_neg h3]
    by_cases h2:j=q
    ·subst h2
     rw[if_pos rfl,if_pos hjl,←hi];intro he;exact h3 (inj _ _ hil he.symm)
    ·rw[if_neg h2]
     by_cases h4:i=q
     ·subst h4
      rw[if_pos rfl,if_pos hil,←hj];intro he;exact h1 (inj _ _ hjl he.symm)
     ·rw[if_neg h4]
      intro he;have:=inj _ _ (by omega) he;omega
 refine List.pairwise_iff_getElem.2 fun p q hp hq hpq he=>?_
 simp only[ZU] at hp hq;refine main p q hpq hq ?_;rw[ZD (by simpa using hp),ZD (by simpa using hq),he]
theorem MatOK.swap {i j:Nat} {a b:MR} (hok:MatOK N rows) (hi:rows[i]?=some a) (hj:rows[j]?=some b):MatOK N ((rows.set i b).set j a):=by
 refine⟨by rw[ZU,ZU];exact hok.len,?_,fun x hx=>?_⟩
 ·rw[aaR,aaR]
  exact Dd (by rw[ZN,hi];rfl) (by rw[ZN,hj];rfl) hok.nd
 ·rcases aaM hx with hx | rfl
  ·rcases aaM hx with hx | rfl
   ·exact hok.row x hx
   ·exact hok.row _ (aaK hj)
  ·exact hok.row _ (aaK hi)
end
theorem SO {l:List aM} {i:Nat} {a b c d} (h:l[i]?=some ((a,b),(c,d))):cut (ay ae l) (i*4) 4=some [.dat (.int .i64 a),.dat (.sl (b.map aa)),.dat (.int .i64 c),.dat (.sl (d.map aa))]:=by
 have:=sY cr h (f:=0) (n:=4) (by omega);rw[aaS] at this;rw[this]
 rfl
theorem S2 {N:Nat} {rows:List MR} {i:Nat} {x:MR} (h:rows[i]?=some x):cut (ce N rows) i 1=some [.ref (x.1+900000) x.2.1 4 0 (N+1)]:=by
 obtain⟨hlt,rfl⟩:=List.getElem?_eq_some_iff.1 h;unfold cut ce;rw[if_pos (by rw[ZH];omega),←List.map_drop,aac hlt]
 rfl
theorem H8 {l m:List aM} (h:ay ae l=ay ae m):l=m:=tE cr dJ _ _ h (by omega)
def ic (f:aM):Bool:=f.1.1==0
def cL (x:MR) (c:Nat):aM:=x.2.2.getD c cb
def cw (rows:List MR) (r c:Nat):Nat:=r+(rows.drop r).findIdx fun x => !ic (cL x c)
def cU (fac:aM):List aM→List aM→Bool→List aM × Bool
 | f::fs,p::ps,false=>((nt f (mg fac p).1).1::(cU fac fs ps ((mg fac p).2 != 0||(nt f (mg fac p).1).2 != 0)).1,(cU fac fs ps ((mg fac p).2 != 0||(nt f (mg fac p).1).2 != 0)).2)
 | fs,_,b=>(fs,b)
def bR (prow:List aM) (r c:Nat):Nat→List MR→Bool→List MR × Bool
 | _,[],bad=>([],bad)
 | i,x::xs,bad=>if (i==r||ic (cL x c))=true then (x::(bR prow r c (i+1) xs bad).1,(bR prow r c (i+1) xs bad).2) else
  ((x.1,x.2.1,(cU (cL x c) x.2.2 prow bad).1)::(bR prow r c (i+1) xs (cU (cL x c) x.2.2 prow bad).2).1,(bR prow r c (i+1) xs (cU (cL x c) x.2.2 prow bad).2).2)
def cB (by':aM) (l:List aM):List aM × Bool:=(l.map fun f=>(iY f by').1,l.any fun f=>(iY f by').2 != 0)
def fp (rows:List MR) (i:Nat):MR:=rows.getD i (0,0,[])
def swapped (rows:List MR) (i j:Nat):List MR:=(rows.set i (fp rows j)).set j (fp rows i)
def divided (rows:List MR) (r c:Nat):List MR:=rows.set r ((fp rows r).1,(fp rows r).2.1,(cB (cL (fp rows r) c) (fp rows r).2.2).1)
def gY (rows:List MR) (r c:Nat):Bool × List MR × Bool :=
 if cw rows r c=rows.length then (true,rows,false) else
  (false,bR (cB (cL (fp (swapped rows r (cw rows r c)) r) c) (fp (swapped rows r (cw rows r c)) r).2.2).1 r c 0 (divided (swapped rows r (cw rows r c)) r c)
   (cB (cL (fp (swapped rows r (cw rows r c)) r) c) (fp (swapped rows r (cw rows r c)) r).2.2).2)
theorem zu {rows:List MR} {r c i:Nat} {x:MR} (hx:rows[i]?=some x) (hr:r≤i) (hz:∀ j y,r≤j→j<i→rows[j]?=some y→ic (cL y c)=true) (h:ic (cL x c)=false):cw rows r c=i:=by
 unfold cw;obtain⟨hlt,hxi⟩:=List.getElem?_eq_some_iff.1 hx
 have:(rows.drop r).findIdx (fun x => !ic (cL x c))=i-r:=by
  rw[List.findIdx_eq (by rw[aaT];omega)];refine⟨?_,fun j hj=>?_⟩
  ·rw[aaU]
   have:rows[r+(i-r)]?=some x:=by rw[show r+(i-r)=i by omega];exact hx
   rw[(List.getElem?_eq_some_iff.1 this).2,h];rfl
  ·rw[aaU]
   have:=hz (r+j) _ (by omega) (by omega) (ZD (by omega));rw[this];rfl
 omega
theorem Cz {rows:List MR} {r c:Nat} (hr:r≤rows.length) (hz:∀ j y,r≤j→rows[j]?=some y→ic (cL y c)=true):cw rows r c=rows.length:=by
 unfold cw
 have:(rows.drop r).findIdx (fun x => !ic (cL x c))=(rows.drop r).length:=by
  rw[List.findIdx_eq_length];intro y hy;obtain⟨j,hj⟩:=List.mem_iff_getElem?.1 hy;rw[aaV] at hj;rw[hz (r+j) y (by omega) hj];rfl
 rw[this,aaT];omega
set_option maxHeartbeats 4000000
theorem eC {x:Rat} (h:cm x):okF (aj x):=⟨eX h.1,eX (tY h)⟩
theorem fj:okF cb:=⟨by simp [cb],by simp [cb]⟩
theorem Me (p q:Raw):okF (fR p q).1:=by
 unfold fR
 split
 ·rename_i h
  rw[aao] at h;obtain⟨x,hx,e1⟩:=(bm _).1 h.1;obtain⟨y,hy,e2⟩:=(bm _).1 h.2
  split
  ·exact fj
  ·rw[e1,e2,aU,aU]
   exact eC (mL hx hy)
 ·exact fj
theorem uX (p q:Raw × Int):okF (nl p q).1:=by
 unfold nl
 split
 ·split
  ·exact Me _ _
  ·exact fj
 ·exact fj
theorem LM (a b:aM):okF (sG a b).1:=by
 unfold sG
 split
 ·split
  ·exact uX _ _
  ·exact fj
 ·exact fj
theorem EO (a b:aM):okF (nt a b).1:=by
 unfold nt
 split
 ·split
  ·exact LM _ _
  ·exact fj
 ·exact fj
theorem LF (a b:aM):okF (mg a b).1:=by
 unfold mg
 split
 ·split
  ·exact uX _ _
  ·exact fj
 ·exact fj
theorem Eo (a b:aM):okF (iY a b).1:=by
 unfold iY
 split
 ·split
  ·split
   ·exact fj
   ·exact uX _ _
  ·exact fj
 ·exact fj
theorem tQ {x:MR} {c:Nat} {f:aM} (h:x.2.2[c]?=some f):cL x c=f:=by
 unfold cL;rw[ZC,h]
 rfl
theorem kY {rows:List MR} {i:Nat} {x:MR} (h:rows[i]?=some x):fp rows i=x:=by
 unfold fp;rw[ZC,h]
 rfl
theorem zm {l:List aM} {k:Nat} (h:k<l.length):(k*4+4≤(ay ae l).length)=True:=eq_true (by rw[di cr];omega)
theorem Ai {l:List aM} {k:Nat} {a b c d} (h:l[k]?=some ((a,b),(c,d))):aaW 4 (ZY (k*4) (ay ae l))=[.dat (.int .i64 a),.dat (.sl (b.map aa)),.dat (.int .i64 c),.dat (.sl (d.map aa))]:=by
 have:=SO h;unfold cut at this;rw[if_pos (by rw[di cr];have:=(List.getElem?_eq_some_iff.1 h).1;omega)] at this;exact Option.some.inj this
theorem L0 {l:List aM} {k:Nat} (h:k<l.length) (a:Int) (b:List Int) (c:Int) (d:List Int) :
  aaW (k*4) (ay ae l)++[MV.dat (.int .i64 a),.dat (.sl (b.map aa)),.dat (.int .i64 c),.dat (.sl (d.map aa))]++ZY (k*4+4) (ay ae l)=ay ae (l.set k ((a,b),(c,d))):=by
 rw[←A9 cr h]
 rfl
theorem Cy {N:Nat} {rows:List MR} {i:Nat} (h:i<rows.length):(i+1≤(ce N rows).length)=True:=eq_true (by unfold ce;rw[ZH];omega)
theorem Fd {N:Nat} {rows:List MR} {i:Nat} {x:MR} (h:rows[i]?=some x):aaW 1 (ZY i (ce N rows))=[.ref (x.1+900000) x.2.1 4 0 (N+1)]:=by
 have:=S2 (N:=N) h;unfold cut at this;rw[if_pos (by unfold ce;rw[ZH];have:=(List.getElem?_eq_some_iff.1 h).1;omega)] at this;exact Option.some.inj this
theorem QK {N:Nat} {rows:List MR} {i:Nat} (h:i<rows.length) (b:MR):aaW i (ce N rows)++[MV.ref (b.1+900000) b.2.1 4 0 (N+1)]++ZY (i+1) (ce N rows)=ce N (rows.set i b):=by
 unfold ce;rw[aaR,List.set_eq_take_append_cons_drop,if_pos (by rw[ZH];exact h),aax]
 rfl
theorem oY (fac:aM):∀ (l p:List aM) (b:Bool),(cU fac l p b).1.length=l.length
 | [],_,_=>by simp [cU]
 | f::fs,[],b=>by cases b<;>simp [cU]
 | f::fs,p::ps,true=>by simp [cU]
 | f::fs,p::ps,false=>by simp [cU,oY fac fs ps]
theorem o7 (fac:aM) (l p:List aM):cU fac l p true=(l,true):=by
 cases l<;>cases p<;>simp [cU]
theorem tH (fac:aM) (p:List aM) (b:Bool):cU fac [] p b=([],b):=by
 cases b<;>simp [cU]
theorem yR {α:Type} (f:α→α) {l:List α} {k:Nat} {x:α} (h:l[k]?=some x):((l.take k).map f++l.drop k).set k (f x)=(l.take (k+1)).map f++l.drop (k+1):=by
 obtain⟨hlt,hx⟩:=List.getElem?_eq_some_iff.1 h;have hl:((l.take k).map f).length=k:=by rw[ZH,aaX];omega
 rw[aaY _ _ (by omega),hl,aaZ,aac hlt,aa0,aaJ,h,List.map_append,aax]
 rfl
theorem vh {α:Type} (f:α→α) {l:List α} {k:Nat}:((l.take k).map f++l.drop k)[k]?=l[k]?:=by
 rcases ZO k l.length with h | h
 ·have hl:((l.take k).map f).length=k:=by rw[ZH,aaX];omega
  rw[aa1 (by omega),hl,aaZ,aaV,aaS]
 ·rw[ZE h,ZE (by rw[aau,ZH,aaX,aaT];omega)]
theorem tN {α:Type} {rows:List α} {r i:Nat} {x xr:α} (hx:rows[i]?=some x) (hxr:rows[r]?=some xr):((rows.set r x).set i xr)[r]?=some x:=by
 have h1:=(List.getElem?_eq_some_iff.1 hx).1;have h2:=(List.getElem?_eq_some_iff.1 hxr).1;rw[aaP,aaP,ZU]
 by_cases h:i=r
 ·subst h
  rw[hx] at hxr
  cases hxr;rw[if_pos rfl,if_pos h1]
 ·rw[if_neg h,if_pos rfl,if_pos h2]
theorem tc {α:Type} {l:List α} {i:Nat} {x:α} (h:l[i]?=some x):l.set i x=l:=by
 obtain⟨hlt,hx⟩:=List.getElem?_eq_some_iff.1 h;apply aaO;intro j;rw[aaP]
 by_cases hij:i=j
 ·subst hij
  rw[if_pos rfl,if_pos hlt,h]
 ·rw[if_neg hij]
theorem SS (a b:Nat):(!(a+900000==129015)||decide (2<b*4))=true:=by
 have:(a+900000==129015)=false:=by simp
 rw[this];rfl
theorem lN:foreign 168004:=by unfold foreign;omega
theorem lF:foreign 168006:=by unfold foreign;omega
def MCode.sub:MCode→List Nat→MCode
 | .seq a _,0::p=>a.sub p
 | .seq _ b,_::p=>b.sub p
 | .cond _ a _,0::p=>a.sub p
 | .cond _ _ b,_::p=>b.sub p
 | .block _ c,_::p=>c.sub p
 | .ghost _ c,_::p=>c.sub p
 | .loop c,_::p=>c.sub p
 | c,_=>c
def Rk (f:aM):List MV:=[.dat (.int .i64 f.1.1),.dat (.sl (f.1.2.map aa)),.dat (.int .i64 f.2.1),.dat (.sl (f.2.2.map aa))]
theorem O3 (T:Tab) (kW:T bV=mkU mN) (eH:T dY=mkE mI) (dU:T dI=mkE lS) {K:bP→St→Prop} {kk:List Todo}
  (go N r c i2:Nat) (mem:Mem) (hn4:mem 168004=none) (hn6:mem 168006=none) (hN:N≤40) (R2:List MR) (hok2:MatOK N R2) (x y:MR) (prow:List aM) (hyr:R2[i2]?=some y) (hr2:R2[r]?=some (x.1,x.2.1,prow)) (hirn:i2≠r) (hrN:r<N) (bd:Bool)
  (g1:Int) (g2:List Int) (g3:Int) (g4:List Int) (hgl:okF ((g1,g2),(g3,g4))) (tm:Nat→MV) (m:Mem) (G:Nat)
  (e0:tm 0 = .ptr 129015 0 0) (e1:tm 1 = .dat (.int .i64 r)) (e2:tm 2 = .dat (.int .i64 c)) (e12:tm 12 = .ref (y.1+900000) y.2.1 4 0 (N+1)) (e13:tm 13 = .ptr 148013 G 0) (e112:tm 112 = .ref 129035 go 1 0 N) (e113:tm 113 = .dat (.int .i64 N)) (e114:tm 114 = .dat (.int .i64 i2)) (e14:tm 14 = .dat (.int .i64 0))
  (em:m 148013=some (G,[.dat (.int .i64 g1),.dat (.sl (g2.map aa)),.dat (.int .i64 g3),.dat (.sl (g4.map aa))])) (hps:PS mem go N R2 bd m)
  (hK:∀ tm' m' l b,tm' 0 = .ptr 129015 0 0→tm' 1 = .dat (.int .i64 r)→tm' 2 = .dat (.int .i64 c)→tm' 112 = .ref 129035 go 1 0 N→tm' 113 = .dat (.int .i64 N)→tm' 114 = .dat (.int .i64 i2)→(l,b)=cU ((g1,g2),(g3,g4)) y.2.2 prow bd→MatOK N (R2.set i2 (y.1,y.2.1,l))→PS mem go N (R2.set i2 (y.1,y.2.1,l)) b m'→kont T K kk (.exit 6) ⟨tm',m'⟩) :
  wp T (mf_linear_matrix_pivot.body.sub [1,1,1,1,1,1,1,0,1,0,0,1,1,0,0,1,1,1,1,0]) (kont T K kk) ⟨tm,m⟩:=by
 simp only[mf_linear_matrix_pivot,MCode.sub];have hi2N:i2<N:=by rw[←hok2.len];exact (List.getElem?_eq_some_iff.1 hyr).1
 obtain⟨hyl,hyo⟩:=hok2.row y (aaK hyr);have hsety:R2.set i2 (y.1,y.2.1,[]++y.2.2.drop 0)=R2:=tc hyr
 refine af [0,1,2,12,13,112,113,114] [148013] (fun ((k,pre,b):Nat × List aM × Bool) tm m=>k≤N+1∧pre.length=k∧(∀ f∈pre,okF f)∧cU ((g1,g2),(g3,g4)) y.2.2 prow bd=(pre++(cU ((g1,g2),(g3,g4)) (y.2.2.drop k) (prow.drop k) b).1,(cU ((g1,g2),(g3,g4)) (y.2.2.drop k) (prow.drop k) b).2)∧tm 14 = .dat (.int .i64 k)∧PS mem go N (R2.set i2 (y.1,y.2.1,pre++y.2.2.drop k)) b m) (fun (k,_,_)=>N+1-k) (0,[],bd) (by
  refine⟨ZK _,rfl,(by simp),rfl,e14,?_⟩;rw[hsety];exact hps) ?_
 intro vs ms hvs hms;simp only[go_sem,go_sem_proc,ZG,e0,e1,e2,e12,e13,e112,e113,e114,em] at hvs hms;subst hvs hms;clear e0 e1 e2 e12 e13 e112 e113 e114 em e14 hps tm m;rintro⟨k3,pre,b⟩ tm m3 hk hm ⟨hk3,hpre,hpo,he3,h14,hps3⟩;simp only[go_sem,go_sem_proc,ZG,List.cons.injEq] at hk hm;obtain⟨h0,h1,h2,h12,h13,h112,h113,h114⟩:=hk;have hcl3:(pre++y.2.2.drop k3).length=N+1:=by rw[aau,aaT];omega
 have hok3:MatOK N (R2.set i2 (y.1,y.2.1,pre++y.2.2.drop k3)):=hok2.set hyr hcl3 fun f hf=>by
  rw[aa2] at hf;rcases hf with hf | hf
  ·exact hpo f hf
  ·exact hyo f (List.mem_of_mem_drop hf)
 have hy3:(R2.set i2 (y.1,y.2.1,pre++y.2.2.drop k3))[i2]?=some (y.1,y.2.1,pre++y.2.2.drop k3):=by
  rw[aaP,if_pos rfl,if_pos (by rw[hok2.len];exact hi2N)]
 have hr3:(R2.set i2 (y.1,y.2.1,pre++y.2.2.drop k3))[r]?=some (x.1,x.2.1,prow):=by
  rw[aaP,if_neg hirn];exact hr2
 have hm15':=hps3.1.m;have hm35':=hps3.1.o;rcases ZM (k3<N+1) with hk3lt | hk3ge
 ·have hkl:decide ((k3:Int)<((N+1:Nat):Int))=true:=decide_eq_true (by omega)
  cases b
  ·obtain⟨⟨⟨a1,a2⟩,⟨a3,a4⟩⟩,hfk⟩:∃ f,y.2.2[k3]?=some f:=⟨_,ZD (by omega)⟩
   have hprl:prow.length=N+1:=(hok2.row _ (aaK hr2)).1;obtain⟨⟨⟨p1,p2⟩,⟨p3,p4⟩⟩,hpk⟩:∃ f,prow[k3]?=some f:=⟨_,ZD (by omega)⟩;have hfo:=hyo _ (aaK hfk);have hpo':=(hok2.row _ (aaK hr2)).2 _ (aaK hpk)
   have hcg:(pre++y.2.2.drop k3)[k3]?=some ((a1,a2),(a3,a4)):=by
    rw[aa1 (by omega),hpre,aaZ,aaV,aaS,hfk]
   have hd1:y.2.2.drop k3=((a1,a2),(a3,a4))::y.2.2.drop (k3+1):=by
    obtain⟨hl,e⟩:=List.getElem?_eq_some_iff.1 hfk;rw[aac hl,e]
   have hd2:prow.drop k3=((p1,p2),(p3,p4))::prow.drop (k3+1):=by
    obtain⟨hl,e⟩:=List.getElem?_eq_some_iff.1 hpk;rw[aac hl,e]
   have hnew:∀ s:aM,(pre++y.2.2.drop k3).set k3 s=(pre++[s])++y.2.2.drop (k3+1):=fun s=>by
    rw[aaY _ _ (by omega),hpre,aaZ,hd1,aa0,aax];rfl
   have hym3:=hps3.1.r _ (aaK hy3);have hxm3:=hps3.1.r _ (aaK hr3);have q4:m3 168004=none:=(hps3.2 _ lN).trans hn4;have q6:m3 168006=none:=(hps3.2 _ lF).trans hn6;have t1:=Fd (N:=N) hr3;have t2:=Cy (N:=N) (rows:=R2.set i2 (y.1,y.2.1,pre++y.2.2.drop k3)) (i:=r) (by rw[hok3.len];exact hrN);have t3:=Ai hcg;have t4:=zm (l:=pre++y.2.2.drop k3) (k:=k3) (by omega);have t5:=Ai hpk;have t6:=zm (l:=prow) (k:=k3) (by omega);have hw3:IntKind.i64.wrap ((k3:Int)+1)=((k3+1:Nat):Int):=by rw[al _ (by omega) (by omega)];omega
   have hmo:=LF ((g1,g2),(g3,g4)) ((p1,p2),(p3,p4));have hso:=EO ((a1,a2),(a3,a4)) (mg ((g1,g2),(g3,g4)) ((p1,p2),(p3,p4))).1;have he4:=he3;rw[hd1,hd2] at he4;simp only[cU] at he4;generalize hM:mg ((g1,g2),(g3,g4)) ((p1,p2),(p3,p4))=M at *;obtain⟨⟨⟨u1,u2⟩,⟨u3,u4⟩⟩,e1⟩:=M;dsimp only at hso he4 hmo;generalize hS:nt ((a1,a2),(a3,a4)) ((u1,u2),(u3,u4))=S at *;obtain⟨⟨⟨v1,v2⟩,⟨v3,v4⟩⟩,e2⟩:=S;dsimp only at hso he4;have t7:=L0 (l:=pre++y.2.2.drop k3) (k:=k3) (by omega) v1 v2 v3 v4;refine qI ?_
   repeat' (intro h<;>simp only[h,go_sem,go_sem_proc,ZG,kW,dU,eH,h0,h1,h2,h12,h13,h14,h112,h113,h114,hm,hm15',hm35',hym3,hxm3,q4,q6,t1,t2,t3,t4,t5,t6,t7,hkl,hk3lt,hrN,hw3,hM,hS,hfo.1,hfo.2,hpo'.1,hpo'.2,hgl.1,hgl.2,hmo.1,hmo.2,Rk,bB,ae,ZX,mN,List.set_cons_succ,aa0,decide_true,decide_false,Nat.reduceLeDiff,ne_eq,not_false_eq_true,and_self]<;>try refine qS ?_ ?_)
   have e5:=PS.set hok3 hy3 ((pre++y.2.2.drop k3).set k3 ((v1,v2),(v3,v4))) ((hps3.flag (e1 != 0)).flag (e1 != 0||e2 != 0));rw[List.set_set,hnew] at e5;refine⟨SS _ _,(k3+1,pre++[((v1,v2),(v3,v4))],(e1 != 0||e2 != 0)),by dsimp only;omega,by dsimp only;omega,by simp [hpre],?_,?_,rfl,?_⟩
   ·intro f hf
    rw[aa2,List.mem_singleton] at hf;rcases hf with hf | rfl
    ·exact hpo f hf
    ·exact hso
   ·rw[he4]
    dsimp only;rw[aax]
    rfl
   ·dsimp only
    rw[hnew];exact e5
  ·rw[o7] at he3
   refine qI ?_
   repeat' (intro h<;>simp only[h,go_sem,go_sem_proc,ZG,h0,h1,h2,h12,h13,h14,h112,h113,h114,hm15',hm35',hkl]<;>try refine qS ?_ ?_)
   refine hK _ _ (pre++y.2.2.drop k3) true ?_ ?_ ?_ ?_ ?_ ?_ he3.symm hok3 hps3<;>simp only[aW,Z7,if_false,h0,h1,h2,h112,h113,h114]
 ·have hkl:decide ((k3:Int)<((N+1:Nat):Int))=false:=decide_eq_false (by omega)
  have hnl:y.2.2.drop k3=[]:=aal (by omega);rw[hnl,tH,←hnl] at he3;refine qI ?_
  repeat' (intro h<;>simp only[h,go_sem,go_sem_proc,ZG,h0,h1,h2,h12,h13,h14,h112,h113,h114,hm15',hm35',hkl]<;>try refine qS ?_ ?_)
  refine hK _ _ (pre++y.2.2.drop k3) b ?_ ?_ ?_ ?_ ?_ ?_ he3.symm hok3 hps3<;>simp only[aW,Z7,if_false,h0,h1,h2,h112,h113,h114]
end Go.Mini
