/- A part of the proof. -/
import Derived.Test.YtdbkjjoedjfmpaaGreatM07
import Derived.Test.YtdbkjjoedjfmpaaGreatM04
import Derived.Test.YtdbkjjoedjfmpaaGreatM06
set_option linter.unusedSimpArgs false
set_option linter.unusedVariables false
open List renaming getD_eq_getElem?_getD → aal, getElem?_eq_getElem → aam, length_map → aap, replicate → aaq, mem_replicate → aas, getElem?_map → aau, take_of_length_le → aaw, drop_set_of_lt → aaA, map_cons → aaJ, map_nil → aaK, drop_zero → aaN, drop_eq_getElem_cons → aaR, length_cons → aaS, length_singleton → aaT, length_nil → aaV, all_cons → aa1, append_nil → aa8, take_length → aa9, length → aba, length_append → abb, append_assoc → abe, take_add_one → abq, mem_of_getElem? → abr
open Prod renaming ext → aan, ext_iff → aa6
open Bool renaming false_eq_true → aao, not_true → aaW, not_false → aaX, true_and → aaY, and_false → aaZ, false_and → aa0, not_eq_true' → aa2, not_eq_false' → aa3, eq_iff_iff → aa4, and_eq_true → aa5
open Nat renaming zero_le → aar, lt_or_ge → aav, max_eq_right → aaz, mul_one → aaD, le_refl → aaE, mul_le_mul_right → aaG, le_of_lt → aaH, mul_comm → aaI, mul_lt_mul_of_pos_left → aaL, reduceEqDiff → aaM, mod_lt → aaU, gcd → abg, lt_of_le_of_lt → abh, gcd_comm → abi, pos_of_ne_zero → abo
open Decidable renaming em → aat
open Int renaming tdiv_eq_ediv_of_nonneg → aax, mul_zero → aay, mul_add → aaB, mul_assoc → aaC, add_comm → aaO, natCast_zero → aaP, cast_ofNat_Int → aaQ, sign_eq_neg_one_of_neg → aa7, tmod_nonneg → abc, tdiv_nonneg → abd, sign_eq_one_of_pos → abf, sign_mul → abj, natAbs_neg → abk, natAbs_natCast → abl, sign_sign → abm, mul_one → abn
open Option renaming bind_none → aaF, map_eq_some_iff → abs
open Rat renaming divInt → abp
open Classical renaming choose_spec → abt
namespace Go.Mini
open Go
set_option maxRecDepth 10000
set_option maxHeartbeats 4000000
theorem E6 {b:List Int} {k:Nat} (h:k<b.length):b.getD k 0=b[k]:=by rw[aal,aam h];rfl
theorem vF {b:List Int} {k:Nat} (h:b.length≤k):b.getD k 0=0:=by rw[aal,List.getElem?_eq_none h];rfl
noncomputable def qk:List Data→Option PRes:=FF (α:=Nat × Nat) (fun (x,y)=>([digs x,digs y]:List Data)) (fun (x,y)=>aH ((dg x).length≤10000∧(dg y).length≤10000) (.same (digs (x*y))))
theorem y8:∀ a b:Nat × Nat,(fun (x,y)=>([digs x,digs y]:List Data)) a=(fun (x,y)=>([digs x,digs y]:List Data)) b→a=b:=by
  rintro⟨x1,y1⟩ ⟨x2,y2⟩ h;simp only[List.cons.injEq,digs,Data.sl.injEq] at h;exact aan (eW (af aj _ _ h.1)) (eW (af aj _ _ h.2.1))
@[go_sem] theorem sJ (x:Nat) (y:Nat) (hc:(dg x).length≤10000∧(dg y).length≤10000):qk [digs x,digs y]=some (.same (digs (x*y))):=(aY y8 (x,y)).trans (al hc _)
theorem KH (T:Tab) (aZ:T bZ=mkE mj) (bj:T cz=mkE lD) (x:Nat) (y:Nat) (hc:(dg x).length≤10000∧(dg y).length≤10000) :
  wp T mf_ref04_times.body (bF mf_ref04_times.res (.same (digs (x*y)))) ⟨ax [.dat (digs x),.dat (digs y)],emp⟩:=by
 refine ap ?_;simp only[mf_ref04_times];obtain⟨hx,hy⟩:=hc;have hdx:=eI x;have hdy:=eI y;have hvx:=gh x;have hvy:=gh y;generalize ha:dg x=a at *;generalize hb:dg y=b at *;have hw1:IntKind.i64.wrap ((a.length:Int)+(b.length:Int))=((a.length+b.length:Nat):Int):=by rw[an _ (by omega) (by omega)];rfl
 have hb1:8*(a.length+b.length)≤140737488355328:=by omega
 have hb2:a.length+b.length≤maxLen:=jC _ (by omega);have hbl:b.length≤1000000:=by omega
 simp only[go_sem,go_sem_proc,aao,aZ,bj,digs,ha,hb,hw1,hb1,hb2,md,aap]
 refine ae [0,1,5] [] (fun ((i,o):Nat × List Int) tm mem=>i≤a.length∧o.length=a.length+b.length∧isD o∧o.drop (i+b.length)=aaq (o.length-(i+b.length)) 0∧vl o=vl (a.take i)*y∧tm 6 = .dat (.int .i64 (i:Nat))∧mem 186015=some (0,aC aa o))
  (fun (i,_)=>a.length-i) (0,aaq (a.length+b.length) 0) (by
   have hz:∀ n,vl (aaq n 0)=0:=by
    intro n
    induction n with
    | zero=>rfl
    | succ n ih=>rw[List.replicate_succ,gS,ih];rfl
   refine⟨aar _,by simp,fun d hd=>by rw[aas] at hd;omega,by simp,by rw[hz];simp [vl],?_,?_⟩<;>rfl) ?_
 intro vs ms hvs hms;simp only[go_sem,go_sem_proc,aao,aZ,bj,digs,ha,hb,hw1,aap] at hvs hms;subst hvs hms;rintro⟨i,o⟩ tm mem hk-⟨hi,ho,hdo,hzr,hvi,h6,hm⟩;simp only[go_sem,go_sem_proc,aao,aZ,bj,List.cons.injEq] at hk;obtain⟨h0,h1,h5⟩:=hk;rcases aat (i<a.length) with hlt | hge
 ·have hga:a[i]?=some a[i]:=aam hlt
  have hai:=dV hdx i hlt;have hts:=bc a i hlt;generalize a[i]=xi at *;have hdec:decide ((i:Int)<(a.length:Int))=true:=decide_eq_true (by omega);have hwi:IntKind.i64.wrap ((i:Int)+1)=((i+1:Nat):Int):=by rw[an _ (by omega) (by omega)];rfl
  simp only[go_sem,go_sem_proc,aao,aZ,bj,h0,h1,h5,h6,hga,hdec,aa,aap,aau,List.cons.injEq]
  refine ae [0,1,5,6] [] (fun ((k,c,o):Nat × Int × List Int) tm mem=>k≤b.length+1∧(k=b.length+1→c=0)∧o.length=a.length+b.length∧isD o∧o.drop (i+max k b.length)=aaq (o.length-(i+max k b.length)) 0∧0≤c∧c<1048576∧vl o+1048576^(i+k)*c=vl (a.take i)*y+1048576^i*(xi*vl (b.take k)) ∧
    tm 8 = .dat (.int .i64 (k:Nat))∧tm 7 = .dat (.int .i64 c)∧mem 186015=some (0,aC aa o))
   (fun (k,_)=>b.length+1-k) (0,0,o) (by refine⟨aar _,by simp,ho,hdo,by rw[Nat.zero_max];exact hzr,by omega,by omega,by simp [vl,hvi],?_,?_,hm⟩<;>rfl) ?_
  intro vs ms hvs hms;simp only[go_sem,go_sem_proc,aao,aZ,bj,h0,h1,h5,h6,aa,aap] at hvs hms;subst hvs hms;rintro⟨k,c,o⟩ tm mem hk-⟨hki,hkc,ho,hdo,hzr,hc0,hc1,hvi,h8,h7,hm⟩;simp only[go_sem,go_sem_proc,aao,aZ,bj,List.cons.injEq] at hk;obtain⟨h0,h1,h5,h6⟩:=hk;have hw2:IntKind.i64.wrap ((k:Int)+1)=((k+1:Nat):Int):=by rw[an _ (by omega) (by omega)];rfl
  have hw3:IntKind.i64.wrap ((i:Int)+(k:Int))=((i+k:Nat):Int):=by rw[an _ (by omega) (by omega)];rfl
  by_cases hgo:k<b.length∨c>0
  ·have hkb:k≤b.length:=by
    rcases aav b.length k with h | h
    ·have:=hkc (by omega);omega
    ·exact h
   have hjo:i+k<o.length:=by omega
   have hoj:=dV hdo (i+k) hjo
   have hbk:0≤b.getD k 0∧b.getD k 0<1048576:=by
    rcases aav k b.length with h | h
    ·rw[E6 h];exact dV hdy k h
    ·rw[vF h];omega
   have hbt:vl (b.take (k+1))=vl (b.take k)+1048576^k*b.getD k 0:=by
    rcases aav k b.length with h | h
    ·rw[E6 h];exact bc b k h
    ·rw[vF h,aaw (by omega),aaw (by omega)];simp
   have hmax:k<b.length∨(k=b.length∧o[i+k]=0):=by
    rcases aav k b.length with h | h
    ·exact .inl h
    ·refine .inr ⟨by omega,zO hzr (by omega) hjo⟩
   have hdg:=sE b k hbl;generalize b.getD k 0=bk at *;obtain⟨m1,m2,m3,m4⟩:=wv hoj hai hbk ⟨hc0,hc1⟩;have hw4:IntKind.i64.wrap (xi*bk)=xi*bk:=an _ (by omega) (by omega);have hw5:IntKind.i64.wrap (o[i+k]+xi*bk)=o[i+k]+xi*bk:=an _ (by omega) (by omega);have hw6:IntKind.i64.wrap (o[i+k]+xi*bk+c)=o[i+k]+xi*bk+c:=an _ (by omega) (by omega);have hq1:(o[i+k]+xi*bk+c).tmod 1048576=(o[i+k]+xi*bk+c) % 1048576:=Int.tmod_eq_emod_of_nonneg (by omega);have hq2:IntKind.i64.wrap ((o[i+k]+xi*bk+c).tdiv 1048576)=(o[i+k]+xi*bk+c) / 1048576:=by rw[aax (by omega)];exact an _ (by omega) (by omega)
   have hio':i+k+1≤(aC aa o).length:=by rw[fi];omega
   have hget:=pY o (i+k) hjo;have hfold:=fun d=>ip o (i+k) d hjo
   have hjl:i+k<a.length+b.length:=by omega
   have hfin:∃ i':Nat × Int × List Int,b.length+1-i'.1<b.length+1-k∧i'.1≤b.length+1∧(i'.1=b.length+1→i'.2.1=0)∧i'.2.2.length=a.length+b.length∧isD i'.2.2∧i'.2.2.drop (i+max i'.1 b.length)=aaq (i'.2.2.length-(i+max i'.1 b.length)) 0∧0≤i'.2.1∧i'.2.1<1048576∧vl i'.2.2+1048576^(i+i'.1)*i'.2.1=vl (a.take i)*y+1048576^i*(xi*vl (b.take i'.1)) ∧
     MV.dat (Data.int .i64 ((k+1:Nat):Int))=MV.dat (Data.int .i64 (i'.1:Nat))∧MV.dat (Data.int .i64 ((o[i+k]+xi*bk+c) / 1048576))=MV.dat (Data.int .i64 i'.2.1)∧some (0,aC aa (o.set (i+k) ((o[i+k]+xi*bk+c) % 1048576)))=some (0,aC aa i'.2.2):=by
    refine⟨(k+1,(o[i+k]+xi*bk+c) / 1048576,o.set (i+k) ((o[i+k]+xi*bk+c) % 1048576)),by dsimp only;omega,by dsimp only;omega,?_,by simp [ho],ku hdo _ (by omega),?_,m3,m4,?_,rfl,rfl,rfl⟩
    ·intro h
     dsimp only at h ⊢;rcases hmax with h2 | ⟨h2,h3⟩
     ·omega
     ·have hbk0:bk=0:=by
       have e:=hdg;rw[sE b k hbl,vF (by omega)] at e
       simpa using e.symm
      rw[h3,hbk0,aay];omega
    ·dsimp only
     rcases hmax with h2 | ⟨h2,h3⟩
     ·rw[aaz (by omega)] at hzr
      rw[aaz (by omega),aaA (by omega),List.length_set,hzr]
     ·rw[aaz (by omega),←h2] at hzr
      rw[Nat.max_eq_left (by omega)];exact u9 hzr hjo
    ·dsimp only
     rw[DE _ _ _ hjo,hbt,←Nat.add_assoc,Int.pow_succ,By _ _ _ _ _ _ _ hvi];rw[aaB (xi),aaB (1048576^i),Int.pow_add]
     have:(1048576:Int)^i*(xi*(1048576^k*bk))=1048576^i*1048576^k*(xi*bk):=by
      rw[←aaC (xi),Int.mul_comm (xi) (1048576^k),aaC (1048576^k),←aaC]
     omega
   by_cases hkb':k<b.length
   ·have d1:decide ((k:Int)<(b.length:Int))=true:=decide_eq_true (by omega)
    simp only[go_sem,go_sem_proc,aao,aZ,bj,h0,h1,h5,h6,h7,h8,hm,hga,hdg,d1,hw2,hw3,hw4,hw5,hw6,hq1,hq2,hjl,hio',hget,hfold,aa,aaD,aap,aau,List.cons.injEq]
    repeat' (first|refine qS ?_ ?_|fail)<;>intro h<;>simp only[h,go_sem,go_sem_proc,aao,aZ,bj,h0,h1,h5,h6,h7,h8,hm,hga,hdg,d1,hw2,hw3,hw4,hw5,hw6,hq1,hq2,hjl,hio',hget,hfold,aa,aaD,aap,aau,List.cons.injEq]
    exact hfin
   ·have d1:decide ((k:Int)<(b.length:Int))=false:=decide_eq_false (by omega)
    have d2:decide (c>0)=true:=decide_eq_true (by omega);simp only[go_sem,go_sem_proc,aao,aZ,bj,h0,h1,h5,h6,h7,h8,hm,hga,hdg,d1,d2,hw2,hw3,hw4,hw5,hw6,hq1,hq2,hjl,hio',hget,hfold,aa,aaD,aap,aau,List.cons.injEq]
    repeat' (first|refine qS ?_ ?_|fail)<;>intro h<;>simp only[h,go_sem,go_sem_proc,aao,aZ,bj,h0,h1,h5,h6,h7,h8,hm,hga,hdg,d1,d2,hw2,hw3,hw4,hw5,hw6,hq1,hq2,hjl,hio',hget,hfold,aa,aaD,aap,aau,List.cons.injEq]
    exact hfin
  ·have d1:decide ((k:Int)<(b.length:Int))=false:=decide_eq_false (by omega)
   have d2:decide (c>0)=false:=decide_eq_false (by omega);have hc00:c=0:=by omega
   rw[hc00,aay,Int.add_zero,show b.take k=b from aaw (by omega),hvy] at hvi;simp only[go_sem,go_sem_proc,aao,aZ,bj,h0,h1,h5,h6,h7,h8,hm,d1,d2,hwi,aap]
   repeat' (first|refine qS ?_ ?_|fail)<;>intro h<;>simp only[h,go_sem,go_sem_proc,aao,aZ,bj,h0,h1,h5,h6,h7,h8,hm,d1,d2,hwi,aap]
   refine⟨(i+1,o),by dsimp only;omega,by dsimp only;omega,ho,hdo,?_,?_,rfl,rfl⟩
   ·dsimp only
    have h3:=congrArg (List.drop (i+1+b.length-(i+max k b.length))) hzr;rw[List.drop_drop,List.drop_replicate] at h3;rw[show i+max k b.length+(i+1+b.length-(i+max k b.length))=i+1+b.length by omega] at h3
    rw[h3]
    congr 1
    omega
   ·dsimp only
    rw[hvi,hts,Int.add_mul,aaC]
 ·obtain rfl:i=a.length:=by omega
  have hdec:decide ((a.length:Int)<(a.length:Int))=false:=decide_eq_false (by omega);rw[aaw (aaE _),hvx] at hvi;have hT:=iw o (by omega);rw[mH (n:=x*y) hdo (by rw[hvi];rfl)] at hT;have hL:=kD (dg (x*y));have hD:=eO (n:=5) bw hm;rw[ho] at hD;simp only[go_sem,go_sem_proc,aao,aZ,bj,h0,h1,h5,h6,hm,hdec,hT,hL,hD,dP,aaF,digs,aap]
  repeat' (first|refine qS ?_ ?_|fail)<;>intro h<;>simp only[h,go_sem,go_sem_proc,aao,aZ,bj,h0,h1,h5,h6,hm,hdec,hT,hL,hD,dP,aaF,digs,aap]
def MCode.sub2:MCode→List Nat→MCode
 | .seq a _,0::p=>a.sub2 p
 | .seq _ b,_::p=>b.sub2 p
 | .cond _ a _,0::p=>a.sub2 p
 | .cond _ _ b,_::p=>b.sub2 p
 | .block _ c,_::p=>c.sub2 p
 | .ghost _ c,_::p=>c.sub2 p
 | .loop c,_::p=>c.sub2 p
 | c,_=>c
theorem BY {n:Nat} (h:0<n) (h1:n<1048576):[(n:Int)]=dg n:=(pT h h1).symm
theorem IV {n:Nat} (h1:n<1048576):cy [(n:Int)]=dg n:=mH (by intro d hd;have:=List.mem_singleton.1 hd;omega) (by simp [vl])
theorem Gy {d:Int} {r:Nat} (h0:0≤d) (h1:d<1048576):cy (d::dg r)=dg (d.toNat+1048576*r):=mH (isD_cons.2 ⟨⟨h0,h1⟩,eI r⟩) (by rw[gS,gh];omega)
theorem pu {n m k:Nat} (h:n<m*1048576) (hm:(dg m).length≤k):(dg n).length≤k+1:=by
 rw[dg_len] at *;rw[Nat.pow_succ];exact Nat.lt_of_lt_of_le h (aaG _ (aaH hm))
theorem EY (T:Tab) (dD:T gu=mkE qk) (eF:T jG=mkE tA) {K:bK→St→Prop} {kk:List Todo} (y R:Nat) (hy:(dg y).length≤1000) (hR:(dg R).length≤1001) (hy0:0<y) (hRy:R<y*1048576) (v0 v6 v8:MV) (tm:Nat→MV) (m:Mem)
  (e0:tm 0=v0) (e1:tm 1 = .dat (.sl ((dg y).map aa))) (e6:tm 6=v6) (e7:tm 7 = .dat (.sl ((dg R).map aa))) (e8:tm 8=v8) (e9:tm 9 = .dat (.int .i64 0)) (e10:tm 10 = .dat (.int .i64 1048576))
  (hK:∀ tm',tm' 0=v0→tm' 1 = .dat (.sl ((dg y).map aa))→tm' 6=v6→tm' 7 = .dat (.sl ((dg R).map aa))→tm' 8=v8→tm' 9 = .dat (.int .i64 ((R / y:Nat):Int))→kont T K kk (.exit 2) ⟨tm',m⟩) :
  wp T (mf_ref04_over.body.sub2 [1,1,1,0,1,0,0,1,0,0,1,1,1,0,0]) (kont T K kk) ⟨tm,m⟩:=by
 simp only[mf_ref04_over,MCode.sub2];refine ae [0,1,6,7,8] [] (fun ((lo,hi):Nat × Nat) tm' m'=>lo<hi∧hi≤1048576∧lo*y≤R∧R<hi*y∧tm' 9 = .dat (.int .i64 lo)∧tm' 10 = .dat (.int .i64 hi)∧m'=m) (fun (lo,hi)=>hi-lo) (0,1048576) (by refine⟨by omega,by omega,by omega,by rw[aaI];exact hRy,e9,e10,rfl⟩) ?_;intro vs ms hvs hms;simp only[go_sem,go_sem_proc,aao,e0,e1,e6,e7,e8] at hvs hms;subst hvs hms;clear e0 e1 e6 e7 e8 e9 e10;rintro⟨lo,hi⟩ tm m' hk hm ⟨hlh,hh,hlo,hhi,h9,h10,rfl⟩;simp only[go_sem,go_sem_proc,aao,List.cons.injEq] at hk hm;obtain⟨h0,h1,h6,h7,h8⟩:=hk;have w1:IntKind.i64.wrap ((hi:Int)-(lo:Int))=(hi:Int)-(lo:Int):=an _ (by omega) (by omega)
 by_cases hgo:hi-lo>1
 ·have d1:decide ((hi:Int)-(lo:Int)>1)=true:=decide_eq_true (by omega)
  have w2:IntKind.i64.wrap ((lo:Int)+(hi:Int))=((lo+hi:Nat):Int):=by rw[an _ (by omega) (by omega)];omega
  have w3:IntKind.i64.wrap (((lo+hi:Nat):Int).tdiv 2)=(((lo+hi) / 2:Nat):Int):=by rw[aax (by omega),an _ (by omega) (by omega)];omega
  obtain⟨mid,hmid⟩:∃ mid:Nat,mid=(lo+hi) / 2:=⟨_,rfl⟩;rw[←hmid] at w3;have hT:=sJ y mid ⟨by omega,by rw[←BY (n:=mid) (by omega) (by omega)];simp⟩
  simp only[digs] at hT;rw[←BY (n:=mid) (by omega) (by omega)] at hT;simp only[aaJ,aaK,aa] at hT;have hml:(dg (y*mid)).length≤1001:=pu (aaL (show mid<1048576 by omega) hy0) hy;have hL:=Cv R (y*mid) ⟨by omega,by omega⟩
  simp only[digs] at hL;rcases hd:decide (R<y*mid)
  ·have hn:=of_decide_eq_false hd
   rw[hd] at hL;refine qI ?_
   repeat' (intro h<;>simp only[h,go_sem,go_sem_proc,aao,dD,eF,h0,h1,h6,h7,h8,h9,h10,w1,w2,w3,d1,hT,hL]<;>try refine qS ?_ ?_)
   exact⟨(mid,hi),by dsimp only;omega,by dsimp only;omega,hh,by dsimp only;rw[aaI];omega,hhi,rfl,rfl⟩
  ·have hn:=of_decide_eq_true hd
   rw[hd] at hL;refine qI ?_
   repeat' (intro h<;>simp only[h,go_sem,go_sem_proc,aao,dD,eF,h0,h1,h6,h7,h8,h9,h10,w1,w2,w3,d1,hT,hL]<;>try refine qS ?_ ?_)
   exact⟨(lo,mid),by dsimp only;omega,by dsimp only;omega,by dsimp only;omega,hlo,by dsimp only;rw[aaI];omega,rfl,rfl⟩
 ·have d1:decide ((hi:Int)-(lo:Int)>1)=false:=decide_eq_false (by omega)
  have hq:R / y=lo:=by
   have h1:hi=lo+1:=by omega
   subst h1;exact Nat.div_eq_of_lt_le hlo hhi
  refine qI ?_
  repeat' (intro h<;>simp only[h,go_sem,go_sem_proc,aao,h0,h1,h6,h7,h8,h9,h10,w1,d1]<;>try refine qS ?_ ?_)
  refine hK _ ?_ ?_ ?_ ?_ ?_ ?_<;>simp only[aR,aaM,if_false,h0,h1,h6,h7,h8,h9,hq]
noncomputable def ta:List Data→Option PRes:=FF (α:=Nat × Nat) (fun (x,y)=>([digs x,digs y]:List Data)) (fun (x,y)=>aH ((dg x).length≤1000∧(dg y).length≤1000∧0<y) (.same (.tup [digs (x / y),digs (x % y)])))
theorem zG:∀ a b:Nat × Nat,(fun (x,y)=>([digs x,digs y]:List Data)) a=(fun (x,y)=>([digs x,digs y]:List Data)) b→a=b:=by
  rintro⟨x1,y1⟩ ⟨x2,y2⟩ h;simp only[List.cons.injEq,digs,Data.sl.injEq] at h;exact aan (eW (af aj _ _ h.1)) (eW (af aj _ _ h.2.1))
@[go_sem] theorem uv (x:Nat) (y:Nat) (hc:(dg x).length≤1000∧(dg y).length≤1000∧0<y):ta [digs x,digs y]=some (.same (.tup [digs (x / y),digs (x % y)])):=(aY zG (x,y)).trans (al hc _)
theorem MO (T:Tab) (bj:T cz=mkE lD) (dD:T gu=mkE qk) (eF:T jG=mkE tA) (co:T gv=mkE qN) (x:Nat) (y:Nat) (hc:(dg x).length≤1000∧(dg y).length≤1000∧0<y) :
  wp T mf_ref04_over.body (bF mf_ref04_over.res (.same (.tup [digs (x / y),digs (x % y)]))) ⟨ax [.dat (digs x),.dat (digs y)],emp⟩:=by
 refine ap ?_;simp only[mf_ref04_over];obtain⟨hx,hy,hy0⟩:=hc;have hdx:=eI x;have hvx:=gh x;generalize ha:dg x=a at *;have hb1:8*a.length≤140737488355328:=by omega
 have hb2:a.length≤maxLen:=jC _ (by omega);have hw0:IntKind.i64.wrap ((a.length:Int)-1)=(a.length:Int)-1:=an _ (by omega) (by omega);simp only[go_sem,go_sem_proc,aao,bj,dD,eF,co,digs,ha,hb1,hb2,md,hw0,aap]
 refine ae [0,1,6] [] (fun ((n,r,rv,o):Nat × Nat × MV × List Int) tm mem=>n≤a.length∧o.length=a.length∧isD o∧r<y∧vl (a.drop n)=y*vl (o.drop n)+r∧(rv = .nil∧r=0∨rv = .dat (digs r))∧tm 8 = .dat (.int .i64 ((n:Nat)-1))∧tm 7=rv∧mem 180014=some (0,aC aa o))
  (fun (n,_)=>n) (a.length,0,.nil,aaq a.length 0) (by
   refine⟨aaE _,by simp,fun d hd=>by rw[aas] at hd;omega,hy0,by simp [vl],.inl ⟨rfl,rfl⟩,rfl,rfl,rfl⟩) ?_
 intro vs ms hvs hms;simp only[go_sem,go_sem_proc,aao,bj,dD,eF,co,digs,ha,aap] at hvs hms;subst hvs hms;rintro⟨n,r,rv,o⟩ tm mem hk-⟨hn,ho,hdo,hr1,hv,hrv,h8,h7,hm⟩;simp only[go_sem,go_sem_proc,aao,bj,dD,eF,co,List.cons.injEq] at hk;obtain⟨h0,h1,h6⟩:=hk;rcases n with _ | n
 ·have hq:vl o=((x / y:Nat):Int)∧r=x % y:=by
   rw[aaN,aaN,hvx] at hv;have e1:(x:Int) / (y:Int)=vl o:=by rw[hv,aaO,Int.add_mul_ediv_left _ _ (by omega),Int.ediv_eq_zero_of_lt (by omega) (by omega)];omega
   have e2:(x:Int) % (y:Int)=r:=by rw[hv,aaO,Int.add_mul_emod_self_left,Int.emod_eq_of_lt (by omega) (by omega)]
   refine⟨by rw[←e1];rfl,by omega⟩
  have hT:=iw o (by omega);rw[mH (n:=x / y) hdo hq.1] at hT;have hL:=kD (dg (x / y));have hD:=eO (n:=5) bw hm;rw[ho] at hD;rcases hrv with ⟨rfl,hr0⟩ | rfl
  ·have hz:dg (x % y)=[]:=by rw[←hq.2,hr0];rfl
   simp only[go_sem,go_sem_proc,aao,bj,dD,eF,co,h0,h1,h6,h7,h8,hm,hT,hL,hD,hz,dP,aaF,digs,aaP,aaQ,show ¬ ((0:Int)-1≥0) by omega,decide_false,aap,aaK]
   repeat' (first|refine qS ?_ ?_|fail)<;>intro h<;>simp only[h,go_sem,go_sem_proc,aao,bj,dD,eF,co,h0,h1,h6,h7,h8,hm,hT,hL,hD,hz,dP,aaF,digs,aaP,aaQ,show ¬ ((0:Int)-1≥0) by omega,decide_false,aap,aaK]
  ·simp only[go_sem,go_sem_proc,aao,bj,dD,eF,co,h0,h1,h6,h7,h8,hm,hT,hL,hD,dP,aaF,digs,aaP,aaQ,show ¬ ((0:Int)-1≥0) by omega,decide_false,aap,aaK,hq.2]
   repeat' (first|refine qS ?_ ?_|fail)<;>intro h<;>simp only[h,go_sem,go_sem_proc,aao,bj,dD,eF,co,h0,h1,h6,h7,h8,hm,hT,hL,hD,dP,aaF,digs,aaP,aaQ,show ¬ ((0:Int)-1≥0) by omega,decide_false,aap,aaK,hq.2]
 ·have hga:a[n]?=some a[n]:=aam (by omega)
  have han:=dV hdx n (by omega);have hda:a.drop n=a[n]::a.drop (n+1):=aaR (by omega);have hno:n<o.length:=by omega
  have hdo':∀ e:Int,(o.set n e).drop n=e::o.drop (n+1):=fun e=>by
   rw[aaR (by simpa using hno),List.getElem_set_self,aaA (by omega)]
  generalize a[n]=d at *;have hw:((n+1:Nat):Int)-1=(n:Int):=by omega
  have hge:decide ((n:Int)≥0)=true:=decide_eq_true (by omega);have hw4:IntKind.i64.wrap ((n:Int)-1)=(n:Int)-1:=an _ (by omega) (by omega);have hrl:(dg r).length≤1000:=by rw[dg_len] at *;omega
  obtain⟨R,hR⟩:∃ R:Nat,R=d.toNat+1048576*r:=⟨_,rfl⟩
  have hRlt:R<y*1048576:=by
   have:(r+1)*1048576≤y*1048576:=aaG _ hr1;omega
  have hRl:=pu hRlt hy;have hct:=Gy (d:=d) (r:=r) han.1 han.2;rw[←hR] at hct;have hT:=iw (d::dg r) (by rw[aaS];omega);rw[hct] at hT;simp only[aaJ,aa] at hT;have hL:=kD (dg R)
  have happ:∀ G:Nat,ln 180026 G 1 1 8 (dg r).length (((dg r).map aa).flatten.map .dat) (some (G,[.dat (.int .i64 d)]))=some (.ref 180026 (G+1) 1 0 (1+(dg r).length),some (180026,G+1,aC aa (d::dg r))):=fun G=>by
   have:=n7 bw ik 180026 G 8 [d] (dg r) (by rw[aaT];omega) (by rw[aaT];omega);exact this
  have hDr:∀ (G:Nat) (m:Mem),m 180026=some (G,aC aa (d::dg r))→toD 6 m (.ref 180026 G 1 0 (1+(dg r).length))=some (.sl ((d::dg r).map aa)):=fun G m hm=>by
   have:=eO (n:=5) bw hm;rw[aaS,Nat.add_comm (dg r).length 1] at this;exact this
  have hev:(((dg r).map aa).all fun e=>e.length==1)=true:=uE _;have hDr':=hDr (cT (mem 180026)+1) (ay (ay mem 180026 (cT (mem 180026)) [MV.dat (.int .i64 d)]) 180026 (cT (mem 180026)+1) (aC aa (d::dg r))) (by simp [ay]);have hnl:n<a.length:=by omega
  obtain⟨lo,hlo⟩:∃ lo:Nat,lo=R / y:=⟨_,rfl⟩;have hlob:lo<1048576:=by rw[hlo];exact Nat.div_lt_of_lt_mul hRlt
  have hdm:=Nat.div_add_mod R y;have hml:=aaU R hy0;rw[←hlo] at hdm;have hmod:R-y*lo=R % y:=by omega
  have hmll:(dg (y*lo)).length≤1001:=pu (aaL hlob hy0) hy
  have hT2:lD [.sl [[.int .i64 ((R / y:Nat):Int)]]]=some (.own 1 ((dg lo).map aa)):=by
   have h:=iw [((R / y:Nat):Int)] (by simp);rw[←hlo,IV hlob] at h;rw[←hlo];exact h
  have hT3:=sJ y lo ⟨by omega,by have:(dg lo).length≤1:=dg_len.2 (by rw[Nat.pow_one];exact hlob);omega⟩
  simp only[digs] at hT3;have hT4:=sO R (y*lo) ⟨by omega,by omega,by omega⟩
  rw[hmod] at hT4;simp only[digs] at hT4;have hio':n+1≤(aC aa o).length:=by rw[fi];omega
  have hfold:=ip o n ((R / y:Nat):Int) hno
  have hfin:∃ i':Nat × Nat × MV × List Int,i'.1<n+1∧i'.1≤a.length∧i'.2.2.2.length=a.length∧isD i'.2.2.2∧i'.2.1<y∧vl (a.drop i'.1)=y*vl (i'.2.2.2.drop i'.1)+i'.2.1∧(i'.2.2.1 = .nil∧i'.2.1=0∨i'.2.2.1 = .dat (.sl ((dg i'.2.1).map aa)))∧MV.dat (Data.int .i64 ((n:Int)-1))=MV.dat (Data.int .i64 ((i'.1:Int)-1))∧MV.dat (Data.sl ((dg (R % y)).map aa))=i'.2.2.1∧some (0,aC aa (o.set n ((R / y:Nat):Int)))=some (0,aC aa i'.2.2.2):=by
   refine⟨(n,R % y,.dat (digs (R % y)),o.set n ((R / y:Nat):Int)),by dsimp only;omega,by dsimp only;omega,by simp [ho],ku hdo n (by omega),hml,?_,.inr rfl,rfl,rfl,rfl⟩
   dsimp only;rw[hda,gS,hv,hdo',gS,←hlo];have e1:(R:Int)=d+1048576*r:=by omega
   have e2:(y:Int)*lo+(R % y:Nat)=R:=by exact_mod_cast hdm
   have e3:∀ v:Int,(y:Int)*(lo+1048576*v)=y*lo+1048576*(y*v):=fun v=>by rw[aaB,Int.mul_left_comm]
   rw[e3];omega
  have main:rv = .nil∧r=0∨rv = .dat (digs r):=hrv;rcases main with ⟨rfl,hr0⟩ | rfl
  ·subst hr0
   have happ0:=happ;simp only[gj,aaK,List.flatten_nil,aaV] at happ0;simp only[gj,aaV] at hDr';simp only[gj,aaK] at hT;simp only[go_sem,go_sem_proc,aao,bj,dD,eF,co,h0,h1,h6,h7,h8,hm,hga,hw,hge,happ0,hT,hL,hDr',dP,aaF,aa,gj,aap,aau,aaK];refine EY T dD eF y R hy hRl hy0 hRlt (.dat (.sl (a.map aa))) (.ref 180014 0 1 0 a.length) (.dat (.int .i64 n)) _ _ ?_ ?_ ?_ ?_ ?_ ?_ ?_ ?_
   ·exact h0
   ·exact h1
   ·exact h6
   ·rfl
   ·simp only[aR,aaM,if_false,h8,hw]
   ·rfl
   ·rfl
   intro tm' k0 k1 k6 k7 k8 k9;simp only[go_sem,go_sem_proc,aao,bj,dD,eF,co,k0,k1,k6,k7,k8,k9,hm,hnl,hio',hfold,hT2,hT3,hT4,hw4,aaD]
   repeat' (first|refine qS ?_ ?_|fail)<;>intro h<;>simp only[h,go_sem,go_sem_proc,aao,bj,dD,eF,co,k0,k1,k6,k7,k8,k9,hm,hnl,hio',hfold,hT2,hT3,hT4,hw4,aaD]
   exact hfin
  ·simp only[go_sem,go_sem_proc,aao,bj,dD,eF,co,h0,h1,h6,h7,h8,hm,hga,hw,hge,happ,hev,hT,hL,hDr',dP,aaF,digs,aa,aap,aau]
   refine EY T dD eF y R hy hRl hy0 hRlt (.dat (.sl (a.map aa))) (.ref 180014 0 1 0 a.length) (.dat (.int .i64 n)) _ _ ?_ ?_ ?_ ?_ ?_ ?_ ?_ ?_
   ·exact h0
   ·exact h1
   ·exact h6
   ·rfl
   ·simp only[aR,aaM,if_false,h8,hw]
   ·rfl
   ·rfl
   intro tm' k0 k1 k6 k7 k8 k9;simp only[go_sem,go_sem_proc,aao,bj,dD,eF,co,k0,k1,k6,k7,k8,k9,hm,hnl,hio',hfold,hT2,hT3,hT4,hw4,aaD]
   repeat' (first|refine qS ?_ ?_|fail)<;>intro h<;>simp only[h,go_sem,go_sem_proc,aao,bj,dD,eF,co,k0,k1,k6,k7,k8,k9,hm,hnl,hio',hfold,hT2,hT3,hT4,hw4,aaD]
   exact hfin
noncomputable def oN:List Data→Option PRes:=FF (α:=Int × (List Int)) (fun (s,l)=>([.int .i64 s,.sl (l.map aa)]:List Data)) (fun (s,l)=>aH (l.length≤1000000) (.same (.agg (bH (fg s l)))))
theorem AS:∀ a b:Int × (List Int),(fun (s,l)=>([.int .i64 s,.sl (l.map aa)]:List Data)) a=(fun (s,l)=>([.int .i64 s,.sl (l.map aa)]:List Data)) b→a=b:=by
  rintro⟨s1,l1⟩ ⟨s2,l2⟩ h;simp only[List.cons.injEq,Data.int.injEq,Data.sl.injEq] at h;exact aan h.1.2 (af aj _ _ h.2.1)
@[go_sem] theorem PP (s:Int) (l:List Int) (hc:l.length≤1000000):oN [.int .i64 s,.sl (l.map aa)]=some (.same (.agg (bH (fg s l)))):=(aY AS (s,l)).trans (al hc _)
theorem Nd (T:Tab) (bj:T cz=mkE lD) (s:Int) (l:List Int) (hc:l.length≤1000000) :
  wp T mf_ref04_made.body (bF mf_ref04_made.res (.same (.agg (bH (fg s l))))) ⟨ax [.dat (.int .i64 s),.dat (.sl (l.map aa))],emp⟩:=by
 refine ap ?_;simp only[mf_ref04_made];have hT:=iw l hc;have hL:=kD (cy l);refine qI ?_
 repeat' (intro h<;>simp only[h,go_sem,go_sem_proc,aao,bj,hT,hL,aap]<;>try refine qS ?_ ?_)
 all_goals simp only[fg,bH,aaK, *,reduceIte,aaW,aaX,Bool.or_true,Bool.true_or,Bool.or_false,Bool.false_or,Bool.and_true,aaY,aaZ,aa0,aao,beq_self_eq_true,bne]
noncomputable def mB:List Data→Option PRes:=FF (α:=Int × (List Int)) (fun (s,l)=>([.agg [.int .i64 s,.sl (l.map aa)]]:List Data)) (fun (s,l)=>aH (l.length≤1000000) (.same (.bool (aK (s,l)))))
theorem yW:∀ a b:Int × (List Int),(fun (s,l)=>([.agg [.int .i64 s,.sl (l.map aa)]]:List Data)) a=(fun (s,l)=>([.agg [.int .i64 s,.sl (l.map aa)]]:List Data)) b→a=b:=by
  rintro⟨s1,l1⟩ ⟨s2,l2⟩ h;simp only[List.cons.injEq,Data.agg.injEq,Data.int.injEq,Data.sl.injEq] at h;exact aan h.1.1.2 (af aj _ _ h.1.2.1)
@[go_sem] theorem Oc (s:Int) (l:List Int) (hc:l.length≤1000000):mB [.agg [.int .i64 s,.sl (l.map aa)]]=some (.same (.bool (aK (s,l)))):=(aY yW (s,l)).trans (al hc _)
theorem Kq (T:Tab)  (s:Int) (l:List Int) (hc:l.length≤1000000) :
  wp T mf_ref04_Right.body (bF mf_ref04_Right.res (.same (.bool (aK (s,l))))) ⟨ax [.dat (.agg [.int .i64 s,.sl (l.map aa)])],emp⟩:=by
 refine ap ?_;simp only[mf_ref04_Right];simp only[go_sem,go_sem_proc,aao,aap];refine ae [1] [162001] (fun (i:Nat) tm mem=>i≤l.length∧l.all mP=(l.drop i).all mP∧tm 3 = .dat (.int .i64 i)) (fun i=>l.length-i) 0 (by refine⟨by omega,by simp,rfl⟩) ?_;intro vs ms hvs hms;simp only[go_sem,go_sem_proc,aao,aap] at hvs hms;subst hvs hms;rintro i tm mem hk hm ⟨hi,hf,h3⟩;simp only[go_sem,go_sem_proc,aao,List.cons.injEq] at hk hm;have h1:=hk;rcases aat (i<l.length) with hlt | hge
 ·have hd:l.drop i=l[i]::l.drop (i+1):=aaR hlt
  have hx:l[i]?=some l[i]:=aam hlt;generalize l[i]=x at *;have d1:decide ((i:Int)<(l.length:Int))=true:=decide_eq_true (by omega)
  have hfin:∀ b,mP x=true→b=(l.drop (i+1)).all mP→l.all mP=b:=by
   intro b h1 h2;rw[hf,hd,aa1,h1,h2,aaY]
  have hbad:¬ mP x=true→aK (s,l)=false:=by
   intro h1;rw[Bool.not_eq_true] at h1;unfold aK;rw[hf,hd,aa1,h1]
   rfl
  have w3:IntKind.i64.wrap ((i:Int)+1)=((i+1:Nat):Int):=by rw[an _ (by omega) (by omega)];omega
  simp only[go_sem,go_sem_proc,aao,h1,h3,hm,hx,d1,w3,aa,aap,aau,List.cons.injEq]
  repeat' (first|refine qS ?_ ?_|fail)<;>intro h<;>simp only[h,go_sem,go_sem_proc,aao,h1,h3,hm,hx,d1,w3,aa,aap,aau,List.cons.injEq]
  ·rw[hbad fun h=>by have:=(n8 x).1 h;(simp only[Option.some.injEq,Data.bool.injEq,Data.int.injEq,true_and,decide_eq_true_eq,decide_eq_false_iff_not,aao,beq_iff_eq,beq_eq_false_iff_ne,ne_eq] at*<;> omega)]
  ·exact⟨i+1,by omega,by omega,hfin _ ((n8 x).2 (by (simp only[Option.some.injEq,Data.bool.injEq,Data.int.injEq,true_and,decide_eq_true_eq,decide_eq_false_iff_not,aao,beq_iff_eq,beq_eq_false_iff_ne,ne_eq] at*<;> omega))) rfl,rfl⟩
  ·rw[hbad fun h=>by have:=(n8 x).1 h;(simp only[Option.some.injEq,Data.bool.injEq,Data.int.injEq,true_and,decide_eq_true_eq,decide_eq_false_iff_not,aao,beq_iff_eq,beq_eq_false_iff_ne,ne_eq] at*<;> omega)]
 ·have he:l.drop i=[]:=List.drop_eq_nil_of_le (by omega)
  rw[he] at hf;have hall:l.all mP=true:=by rw[hf];rfl
  have d1:decide ((i:Int)<(l.length:Int))=false:=decide_eq_false (by omega);rcases List.eq_nil_or_concat l with rfl | ⟨r,x,rfl⟩
  ·have d2:decide ((i:Int)<0)=false:=d1
   simp only[go_sem,go_sem_proc,aao,h1,h3,hm,d2,aaV,aaP,aaQ,beq_self_eq_true,aaK,bne]
   repeat' (first|refine qS ?_ ?_|fail)<;>intro h<;>simp only[h,go_sem,go_sem_proc,aao,h1,h3,hm,d2,aaV,aaP,aaQ,beq_self_eq_true,aaK,bne]
   all_goals (refine congrArg (fun b=>some (Data.bool b)) ?_;unfold aK;simp;try simp only[decide_eq_true_eq,decide_eq_false_iff_not,beq_iff_eq,beq_eq_false_iff_ne,aa2,aa3,beq_eq_false_iff_ne,ne_eq] at *;omega)
  ·rw[List.concat_eq_append] at *
   have hne:(((r++[x]).length:Int)==0)=false:=by simp;omega
   have hw:IntKind.i64.wrap (((r++[x]).length:Int)-1)=(r.length:Int):=by
    have hl2:(r++[x]).length=r.length+1:=by simp
    rw[an _ (by omega) (by omega)];omega
   have hg:((r++[x]).map aa)[r.length]?=some [.int .i64 x]:=by simp [aa]
   have hr:aK (s,r++[x])=((s==1||s == -1)&&decide (((r++[x]).length:Int)≤60)&&(x != 0)):=by
    unfold aK;rw[hall];simp only[List.getLast?_append,List.getLast?_singleton];simp;have e1:decide (r.length≤59)=decide ((r.length:Int)+1≤60):=decide_eq_decide.2 (by omega);have e2:(some x != some (0:Int))=(x != 0):=by simp [bne]
    rw[e1,e2]
   rw[hr];simp only[go_sem,go_sem_proc,aao,h1,h3,hm,d1,hne,hw,hg,aap]
   repeat' (first|refine qS ?_ ?_|fail)<;>intro h<;>simp only[h,go_sem,go_sem_proc,aao,h1,h3,hm,d1,hne,hw,hg,aap]
   all_goals (refine congrArg (fun b=>some (Data.bool b)) ?_;clear hf hall hr hg hw hk hm h1 h3 d1;rw[aa4];simp only[aa5,Bool.or_eq_true,decide_eq_true_eq,decide_eq_false_iff_not,beq_iff_eq,beq_eq_false_iff_ne,aa2,aa3,ne_eq,aao,false_iff,true_iff] at *;omega)
noncomputable def Dh:List Data→Option PRes:=FF (α:=Int × (List Int)) (fun (s,l)=>([.agg [.int .i64 s,.sl (l.map aa)]]:List Data)) (fun (s,l)=>aH (l.length≤1000000) (.same (.agg (bH (jd (s,l))))))
theorem CM:∀ a b:Int × (List Int),(fun (s,l)=>([.agg [.int .i64 s,.sl (l.map aa)]]:List Data)) a=(fun (s,l)=>([.agg [.int .i64 s,.sl (l.map aa)]]:List Data)) b→a=b:=by
  rintro⟨s1,l1⟩ ⟨s2,l2⟩ h;simp only[List.cons.injEq,Data.agg.injEq,Data.int.injEq,Data.sl.injEq] at h;exact aan h.1.1.2 (af aj _ _ h.1.2.1)
@[go_sem] theorem Qd (s:Int) (l:List Int) (hc:l.length≤1000000):Dh [.agg [.int .i64 s,.sl (l.map aa)]]=some (.same (.agg (bH (jd (s,l))))):=(aY CM (s,l)).trans (al hc _)
theorem PB (T:Tab) (bT:T cw=mkE mB) (bz:T cJ=mkE oN) (s:Int) (l:List Int) (hc:l.length≤1000000) :
  wp T mf_ref04_Neg.body (bF mf_ref04_Neg.res (.same (.agg (bH (jd (s,l)))))) ⟨ax [.dat (.agg [.int .i64 s,.sl (l.map aa)])],emp⟩:=by
 refine ap ?_;simp only[mf_ref04_Neg]
 by_cases hr:aK (s,l)=true
 ·obtain⟨z,hz,e⟩:=(bn _).1 hr
  have e1:jd (s,l)=aS (-z):=by unfold jd;rw[if_pos hr,e,aU]
  cases e
  have hw:IntKind.i64.wrap (0-z.sign) = -z.sign:=by
   have:=Int.sign_trichotomy z;rw[an _ (by omega) (by omega)];omega
  rw[e1];refine qI ?_
  repeat' (intro h<;>simp only[h,go_sem,go_sem_proc,aao,bT,bz,hr,hc,hw,sV,bH]<;>try refine qS ?_ ?_)
 ·have hr:aK (s,l)=false:=by simpa using hr
  have e1:jd (s,l)=(0,[]):=by unfold jd;rw[hr];rfl
  rw[e1];refine qI ?_
  repeat' (intro h<;>simp only[h,go_sem,go_sem_proc,aao,bT,bz,hr,hc,bH,aaK]<;>try refine qS ?_ ?_)
theorem Cg (n:Int):(n.tmod 1048576).natAbs=n.natAbs % 1048576:=by rw[Int.natAbs_tmod];rfl
theorem B3 (n:Int):(n.tdiv 1048576).natAbs=n.natAbs / 1048576:=by rw[Int.natAbs_tdiv];rfl
noncomputable def JI:List Data→Option PRes:=FF (α:=Int) (fun (n:Int)=>([.int .i64 n]:List Data)) (fun (n:Int)=>aH (ct n) (.same (.agg (bH (aS n)))))
theorem Hw:∀ a b:Int,(fun (n:Int)=>([.int .i64 n]:List Data)) a=(fun (n:Int)=>([.int .i64 n]:List Data)) b→a=b:=by
  intro n1 n2 h;simp only[List.cons.injEq,Data.int.injEq,Data.agg.injEq,Data.sl.injEq,Data.bool.injEq,Data.str.injEq,Data.ptr.injEq,Data.tup.injEq,Prod.mk.injEq,true_and,and_true] at h ⊢
  first | exact h | simpa [aa6,and_assoc] using h | grind
@[go_sem] theorem Q1 (n:Int) (hc:ct n):JI [.int .i64 n]=some (.same (.agg (bH (aS n)))):=(aY Hw n).trans (al hc _)
theorem RE (T:Tab) (bz:T cJ=mkE oN) (n:Int) (hc:ct n) :
  wp T mf_ref04_Of.body (bF mf_ref04_Of.res (.same (.agg (bH (aS n))))) ⟨ax [.dat (.int .i64 n)],emp⟩:=by
 refine ap ?_;simp only[mf_ref04_Of];have hc':=hc;unfold ct at hc';obtain⟨hn1,hn2⟩:=hc';have hlen:(dg n.natAbs).length≤60:=dg_len.2 (jI hc);rcases aat (n=0) with rfl | hn0
 ·simp only[go_sem,go_sem_proc,aao,bz,bH,beq_self_eq_true]
  repeat' (first|refine qS ?_ ?_|fail)<;>intro h<;>simp only[h,go_sem,go_sem_proc,aao,bz,bH,beq_self_eq_true]
  rfl
 have hne:(n==0)=false:=by simpa using hn0
 have hs:∀ s:Int,s=n.sign→fg s (dg n.natAbs)=aS n:=fun s h=>dc rfl fun _=>h
 have hlen':(dg n.natAbs).length≤1000000:=by omega
 rcases aat (n<0) with hneg | hpos
 ·have hsn:=hs (-1) (aa7 hneg).symm
  simp only[go_sem,go_sem_proc,aao,bz,hne,hneg,decide_true];refine ae [2,3] [144002] (fun ((u,g,l):Int × Nat × List Int) tm mem=>u≤0∧n≤u∧dg n.natAbs=l++dg u.natAbs∧tm 0 = .dat (.int .i64 u)∧tm 4 = .ref 144022 g 1 0 l.length∧mem 144022=some (g,aC aa l)) (fun (u,_)=>u.natAbs) (n,0,[]) (by refine⟨by omega,by omega,rfl,rfl,rfl,rfl⟩) ?_;intro vs ms hvs hms;simp only[go_sem,go_sem_proc,aao,bz,hneg,decide_true] at hvs hms;subst hvs hms;rintro⟨u,g,l⟩ tm mem hk hm ⟨hu,hnu,hd,h0,h4,hm22⟩;simp only[go_sem,go_sem_proc,aao,bz,List.cons.injEq] at hk hm;obtain⟨h2,h3⟩:=hk;rcases aat (u=0) with rfl | hu0
  ·rw[show (0:Int).natAbs=0 from rfl,gj,aa8] at hd
   rw[hd] at hsn hlen';simp only[go_sem,go_sem_proc,aao,bz,h0,h2,h3,h4,hm,hm22,hsn,hlen',cp bw,aa9,bH,aap,beq_self_eq_true]
   repeat' (first|refine qS ?_ ?_|fail)<;>intro h<;>simp only[h,go_sem,go_sem_proc,aao,bz,h0,h2,h3,h4,hm,hm22,hsn,hlen',cp bw,aa9,bH,aap,beq_self_eq_true]
  ·have hul:l.length≤60:=by
    have:=congrArg aba hd;rw[abb] at this;omega
   have hun:(u==0)=false:=by simpa using hu0
   have hap:=fun d:Int=>dl bw ik 144022 g 8 l d (cs:=[.dat (.int .i64 d)]) rfl (by omega) (by omega)
   have e1:=Cg u;have e2:=B3 u;have e3:u.tmod 1048576≤0:=by have:=abc (a:=-u) 1048576 (by omega);rw[Int.neg_tmod] at this;omega
   have e4:u.tdiv 1048576≤0∧u≤u.tdiv 1048576:=by
    have:=abd (a:=-u) (b:=1048576) (by omega) (by omega);rw[Int.neg_tdiv] at this;omega
   have hw1:IntKind.i64.wrap (u.tdiv 1048576)=u.tdiv 1048576:=an _ (by omega) (by omega);have hw2:IntKind.i64.wrap (0-u.tmod 1048576) = -(u.tmod 1048576):=by rw[an _ (by omega) (by omega)];omega
   have hdu:=jX (n:=u.natAbs) (by omega)
   have hfin:∀ d:Int,d=((u.natAbs % 1048576:Nat):Int)→∃ i':Int × Nat × List Int,i'.1.natAbs<u.natAbs∧i'.1≤0∧n≤i'.1∧dg n.natAbs=i'.2.2++dg i'.1.natAbs∧MV.dat (.int .i64 (u.tdiv 1048576))=MV.dat (.int .i64 i'.1)∧MV.ref 144022 (g+1) 1 0 (l.length+1)=MV.ref 144022 i'.2.1 1 0 i'.2.2.length∧some (g+1,aC aa (l++[d]))=some (i'.2.1,aC aa i'.2.2):=by
    intro d hdd;refine⟨(u.tdiv 1048576,g+1,l++[d]),by dsimp only;omega,by dsimp only;omega,by dsimp only;omega,?_,rfl,by simp,rfl⟩
    dsimp only;rw[hd,hdu,hdd,e2,abe]
    rfl
   by_cases hz:u.tmod 1048576<0
   ·simp only[go_sem,go_sem_proc,aao,bz,h0,h2,h3,h4,hm,hm22,hun,hap,hw1,hw2,hz,decide_true,aap,List.cons.injEq]
    repeat' (first|refine qS ?_ ?_|fail)<;>intro h<;>simp only[h,go_sem,go_sem_proc,aao,bz,h0,h2,h3,h4,hm,hm22,hun,hap,hw1,hw2,hz,decide_true,aap,List.cons.injEq]
    exact hfin _ (by omega)
   ·simp only[go_sem,go_sem_proc,aao,bz,h0,h2,h3,h4,hm,hm22,hun,hap,hw1,hw2,hz,decide_false,aap,List.cons.injEq]
    repeat' (first|refine qS ?_ ?_|fail)<;>intro h<;>simp only[h,go_sem,go_sem_proc,aao,bz,h0,h2,h3,h4,hm,hm22,hun,hap,hw1,hw2,hz,decide_false,aap,List.cons.injEq]
    exact hfin _ (by omega)
 ·have hsn:=hs 1 (abf (by omega)).symm
  simp only[go_sem,go_sem_proc,aao,bz,hne,hpos,decide_false];refine ae [2,3] [144002] (fun ((u,g,l):Int × Nat × List Int) tm mem=>0≤u∧u≤n∧dg n.natAbs=l++dg u.natAbs∧tm 0 = .dat (.int .i64 u)∧tm 4 = .ref 144022 g 1 0 l.length∧mem 144022=some (g,aC aa l)) (fun (u,_)=>u.natAbs) (n,0,[]) (by refine⟨by omega,by omega,rfl,rfl,rfl,rfl⟩) ?_;intro vs ms hvs hms;simp only[go_sem,go_sem_proc,aao,bz,hpos,decide_false] at hvs hms;subst hvs hms;rintro⟨u,g,l⟩ tm mem hk hm ⟨hu,hnu,hd,h0,h4,hm22⟩;simp only[go_sem,go_sem_proc,aao,bz,List.cons.injEq] at hk hm;obtain⟨h2,h3⟩:=hk;rcases aat (u=0) with rfl | hu0
  ·rw[show (0:Int).natAbs=0 from rfl,gj,aa8] at hd
   rw[hd] at hsn hlen';simp only[go_sem,go_sem_proc,aao,bz,h0,h2,h3,h4,hm,hm22,hsn,hlen',cp bw,aa9,bH,aap,beq_self_eq_true]
   repeat' (first|refine qS ?_ ?_|fail)<;>intro h<;>simp only[h,go_sem,go_sem_proc,aao,bz,h0,h2,h3,h4,hm,hm22,hsn,hlen',cp bw,aa9,bH,aap,beq_self_eq_true]
  ·have hul:l.length≤60:=by
    have:=congrArg aba hd;rw[abb] at this;omega
   have hun:(u==0)=false:=by simpa using hu0
   have hap:=fun d:Int=>dl bw ik 144022 g 8 l d (cs:=[.dat (.int .i64 d)]) rfl (by omega) (by omega)
   have e1:=Cg u;have e2:=B3 u;have e3:=abc (a:=u) 1048576 (by omega);have e4:=abd (a:=u) (b:=1048576) (by omega) (by omega);have hw1:IntKind.i64.wrap (u.tdiv 1048576)=u.tdiv 1048576:=an _ (by omega) (by omega);have hdu:=jX (n:=u.natAbs) (by omega);have hz:decide (u.tmod 1048576<0)=false:=decide_eq_false (by omega);simp only[go_sem,go_sem_proc,aao,bz,h0,h2,h3,h4,hm,hm22,hun,hap,hw1,hz,aap,List.cons.injEq]
   repeat' (first|refine qS ?_ ?_|fail)<;>intro h<;>simp only[h,go_sem,go_sem_proc,aao,bz,h0,h2,h3,h4,hm,hm22,hun,hap,hw1,hz,aap,List.cons.injEq]
   refine⟨(u.tdiv 1048576,g+1,l++[u.tmod 1048576]),by dsimp only;omega,by dsimp only;omega,by dsimp only;omega,?_,rfl,by simp,by first | rfl | simp [go_sem]⟩
   dsimp only;rw[hd,hdu,e2,abe,show u.tmod 1048576=((u.natAbs % 1048576:Nat):Int) by omega]
   rfl
def oh (a b:Raw):Bool:=decide (a=b)
noncomputable def C0:List Data→Option PRes:=FF (α:=Int × (List Int) × Int × (List Int)) (fun (s,l,s2,l2)=>([.agg [.int .i64 s,.sl (l.map aa)],.agg [.int .i64 s2,.sl (l2.map aa)]]:List Data)) (fun (s,l,s2,l2)=>aH (l.length≤1000000∧l2.length≤1000000) (.same (dY (kw (s,l) (s2,l2)))))
theorem Dd:∀ a b:Int × (List Int) × Int × (List Int),(fun (s,l,s2,l2)=>([.agg [.int .i64 s,.sl (l.map aa)],.agg [.int .i64 s2,.sl (l2.map aa)]]:List Data)) a=(fun (s,l,s2,l2)=>([.agg [.int .i64 s,.sl (l.map aa)],.agg [.int .i64 s2,.sl (l2.map aa)]]:List Data)) b→a=b:=by
  rintro⟨s1,l1,s21,l21⟩ ⟨s2,l2,s22,l22⟩ h;simp only[List.cons.injEq,Data.agg.injEq,Data.int.injEq,Data.sl.injEq] at h;exact aan h.1.1.2 (aan (af aj _ _ h.1.2.1) (aan h.2.1.1.2 (af aj _ _ h.2.1.2.1)))
@[go_sem] theorem QT (s:Int) (l:List Int) (s2:Int) (l2:List Int) (hc:l.length≤1000000∧l2.length≤1000000):C0 [.agg [.int .i64 s,.sl (l.map aa)],.agg [.int .i64 s2,.sl (l2.map aa)]]=some (.same (dY (kw (s,l) (s2,l2)))):=(aY Dd (s,l,s2,l2)).trans (al hc _)
theorem OM (T:Tab) (bT:T cw=mkE mB) (dR:T ij=mkE ta) (bz:T cJ=mkE oN) (s:Int) (l:List Int) (s2:Int) (l2:List Int) (hc:l.length≤1000000∧l2.length≤1000000) :
  wp T mf_ref04_Gcd.body (bF mf_ref04_Gcd.res (.same (dY (kw (s,l) (s2,l2))))) ⟨ax [.dat (.agg [.int .i64 s,.sl (l.map aa)]),.dat (.agg [.int .i64 s2,.sl (l2.map aa)])],emp⟩:=by
 refine ap ?_;simp only[mf_ref04_Gcd];obtain⟨hl1,hl2⟩:=hc
 by_cases hr:aK (s,l)=true
 ·by_cases hr2:aK (s2,l2)=true
  ·obtain⟨x,hx,e⟩:=(bn _).1 hr
   obtain⟨y,hy,e2⟩:=(bn _).1 hr2
   have hm:kw (s,l) (s2,l2)=(aS (abg x.natAbs y.natAbs:Nat),0):=by
    rw[e,e2];unfold kw
    rw[bP hx,bP hy,aU,aU]
    rfl
   rw[hm];clear hm
   cases e
   cases e2;have hlx:=fU hx;have hly:=fU hy;have hg:=rt hx hy;generalize hX:x.natAbs=X at *;generalize hY:y.natAbs=Y at *;have hl1':(dg X).length≤1000000:=by omega
   simp only[go_sem,go_sem_proc,aao,bT,dR,bz,hr,hr2,hX,hY,hl1,hl2,hl1',aa,aap];refine ae [4] [164004] (fun ((a,b):Nat × Nat) tm mem=>a<LIM∧b<LIM∧abg X Y=abg a b∧tm 6 = .dat (.sl ((dg a).map aa))∧tm 7 = .dat (.sl ((dg b).map aa))) (fun (_,b)=>b) (X,Y) (by refine⟨hx,hy,rfl,rfl,rfl⟩) ?_
   intro vs ms hvs hms;simp only[go_sem,go_sem_proc,aao,bT,dR,bz,hX,hY] at hvs hms;subst hvs hms;rintro⟨a,b⟩ tm mem hk hm ⟨ha,hb,hgc,h6,h7⟩;simp only[go_sem,go_sem_proc,aao,bT,dR,bz,List.cons.injEq] at hk hm;have h4:=hk;have hla:(dg a).length≤60:=dg_len.2 ha;have hlb:(dg b).length≤60:=dg_len.2 hb;rcases Nat.eq_zero_or_pos b with h0 | hpos
   ·subst h0
    have hz:dg 0=[]:=rfl;have hla':(dg a).length≤1000000:=by omega
    rw[Nat.gcd_zero_right] at hgc;have hs:fg 1 (dg a)=aS ((a:Nat):Int):=dc (by simp) fun hn=>(abf (by omega)).symm
    rw[hgc];refine qI ?_
    repeat' (intro h<;>simp only[h,go_sem,go_sem_proc,aao,bT,dR,bz,h4,h6,h7,hm,hz,hla',hs,bH,dY,cY,aaK,aaV,aaP,aaQ,show ¬ ((0:Int)>0) by omega,decide_false]<;>try refine qS ?_ ?_)
   ·have hne:decide (((dg b).length:Int)>0)=true:=by
     have:dg b≠[]:=by rw[Ne,nb];omega
     have:=List.length_pos_iff.2 this;exact decide_eq_true (by omega)
    have hdiv:=uv a b ⟨by omega,by omega,hpos⟩
    simp only[digs] at hdiv;refine qI ?_
    repeat' (intro h<;>simp only[h,go_sem,go_sem_proc,aao,bT,dR,bz,h4,h6,h7,hm,hne,hdiv,aap]<;>try refine qS ?_ ?_)
    exact⟨(b,a % b),aaU _ hpos,hb,abh (Nat.mod_le _ _) ha,by dsimp only;rw[hgc,abi a b,Nat.gcd_rec b a,abi],rfl,rfl⟩
  ·have hr2:aK (s2,l2)=false:=by simpa using hr2
   have hm:kw (s,l) (s2,l2)=((0,[]),1):=by unfold kw;rw[hr2,aaZ];rfl
   rw[hm];refine qI ?_
   repeat' (intro h<;>simp only[h,go_sem,go_sem_proc,aao,bT,dR,bz,hr,hr2,hl1,hl2,bH,dY,aaK]<;>try refine qS ?_ ?_)
 ·have hr:aK (s,l)=false:=by simpa using hr
  have hm:kw (s,l) (s2,l2)=((0,[]),1):=by unfold kw;rw[hr,aa0];rfl
  rw[hm];refine qI ?_
  repeat' (intro h<;>simp only[h,go_sem,go_sem_proc,aao,bT,dR,bz,hr,hl1,hl2,bH,dY,aaK]<;>try refine qS ?_ ?_)

noncomputable def Cw:List Data→Option PRes:=FF (α:=Int × (List Int) × Int × (List Int)) (fun (s,l,s2,l2)=>([.agg [.int .i64 s,.sl (l.map aa)],.agg [.int .i64 s2,.sl (l2.map aa)]]:List Data)) (fun (s,l,s2,l2)=>aH (l.length≤1000000∧l2.length≤1000000) (.same (dm (jv (s,l) (s2,l2)))))
theorem DG:∀ a b:Int × (List Int) × Int × (List Int),(fun (s,l,s2,l2)=>([.agg [.int .i64 s,.sl (l.map aa)],.agg [.int .i64 s2,.sl (l2.map aa)]]:List Data)) a=(fun (s,l,s2,l2)=>([.agg [.int .i64 s,.sl (l.map aa)],.agg [.int .i64 s2,.sl (l2.map aa)]]:List Data)) b→a=b:=by
  rintro⟨s1,l1,s21,l21⟩ ⟨s2,l2,s22,l22⟩ h;simp only[List.cons.injEq,Data.agg.injEq,Data.int.injEq,Data.sl.injEq] at h;exact aan h.1.1.2 (aan (af aj _ _ h.1.2.1) (aan h.2.1.1.2 (af aj _ _ h.2.1.2.1)))
@[go_sem] theorem P4 (s:Int) (l:List Int) (s2:Int) (l2:List Int) (hc:l.length≤1000000∧l2.length≤1000000):Cw [.agg [.int .i64 s,.sl (l.map aa)],.agg [.int .i64 s2,.sl (l2.map aa)]]=some (.same (dm (jv (s,l) (s2,l2)))):=(aY DG (s,l,s2,l2)).trans (al hc _)
theorem O6 (T:Tab) (bT:T cw=mkE mB) (dR:T ij=mkE ta) (ir:T lX=mkE yR) (co:T gv=mkE qN) (bz:T cJ=mkE oN) (s:Int) (l:List Int) (s2:Int) (l2:List Int) (hc:l.length≤1000000∧l2.length≤1000000) :
  wp T mf_ref04_Div.body (bF mf_ref04_Div.res (.same (dm (jv (s,l) (s2,l2))))) ⟨ax [.dat (.agg [.int .i64 s,.sl (l.map aa)]),.dat (.agg [.int .i64 s2,.sl (l2.map aa)])],emp⟩:=by
 refine ap ?_;simp only[mf_ref04_Div];obtain⟨hl1,hl2⟩:=hc
 by_cases hr:aK (s,l)=true
 ·by_cases hr2:aK (s2,l2)=true
  ·obtain⟨x,hx,e⟩:=(bn _).1 hr
   obtain⟨y,hy,e2⟩:=(bn _).1 hr2
   by_cases hy0:y=0
   ·have hm:jv (s,l) (s2,l2)=((0,[]),(0,[]),15):=by
     rw[e,e2];unfold jv
     rw[bP hx,bP hy,aU,aU,if_pos (by rfl),if_pos hy0]
    rw[hm]
    cases e
    cases e2;have h0:((y.sign:Int)==0)=true:=by rw[hy0];rfl
    simp only[go_sem,go_sem_proc,aao,bT,dR,ir,co,bz,hr,hr2,hl1,hl2,h0,bH,dm,aaK]
    repeat' (first|refine qS ?_ ?_|fail)<;>intro h<;>simp only[h,go_sem,go_sem_proc,aao,bT,dR,ir,co,bz,hr,hr2,hl1,hl2,h0,bH,dm,aaK]
   ·have hm:jv (s,l) (s2,l2)=(aS (x.fdiv y),aS (x.fmod y),0):=by
     rw[e,e2];exact lg hx hy hy0
    rw[hm];clear hm
    cases e
    cases e2;have hlx:=fU hx;have hly:=fU hy;have hy0':(y.sign==0)=false:=by rw[beq_eq_false_iff_ne,Ne,Int.sign_eq_zero_iff_zero];exact hy0
    have hypos:0<y.natAbs:=by omega
    have h1:=ej x;have h2:=ej y;have hp:x.sign*y.sign=(x*y).sign:=(abj x y).symm;have h3:=ej (x*y);have hw:IntKind.i64.wrap (x.sign*y.sign)=x.sign*y.sign:=by rw[hp];exact an _ (by omega) (by omega)
    have hdiv:=uv x.natAbs y.natAbs ⟨by omega,by omega,hypos⟩
    simp only[digs] at hdiv;have hq:=mn (y:=y) hx hy0;have hr3:=Aj (x:=x) hy hy0;have hlq:x.natAbs / y.natAbs<LIM:=abh (Nat.div_le_self _ _) hx;have hlq':(dg (x.natAbs / y.natAbs)).length≤60:=dg_len.2 hlq;have hlr:x.natAbs % y.natAbs<LIM:=Nat.lt_trans (aaU _ hypos) hy;have hlr':(dg (x.natAbs % y.natAbs)).length≤60:=dg_len.2 hlr
    by_cases hlow:x.sign*y.sign<0∧x.natAbs % y.natAbs≠0
    ·obtain⟨eq,er⟩:=oP hlow.1 hlow.2
     have hne:(((dg (x.natAbs % y.natAbs)).length:Int)==0)=false:=by
      have:dg (x.natAbs % y.natAbs)≠[]:=by rw[Ne,nb];exact hlow.2
      have:=List.length_pos_iff.2 this;rw[beq_eq_false_iff_ne];omega
     have hneg:decide (x.sign*y.sign≥0)=false:=decide_eq_false (by have:=hlow.1;omega);have hd1:dg 1=[1]:=by simp [dg,dgF]
     have hl1d:(dg 1).length=1:=by rw[hd1];rfl
     have hadd:=D8 (x.natAbs / y.natAbs) 1 ⟨by omega,by omega⟩
     simp only[digs,hd1,aaJ,aaK,aa] at hadd;have hsub:=sO y.natAbs (x.natAbs % y.natAbs) ⟨by omega,by omega,aaH (aaU _ hypos)⟩
     simp only[digs] at hsub
     have hla:(dg (x.natAbs / y.natAbs+1)).length≤1000000:=by
      have:(x.natAbs / y.natAbs+1)<LIM:=by rw[eq] at hq;rw[abk,abl] at hq;exact hq
      have:=(dg_len (k:=60)).2 this;omega
     have hlb:(dg (y.natAbs-x.natAbs % y.natAbs)).length≤1000000:=by have:=tn y.natAbs (x.natAbs % y.natAbs);omega
     have hs1:fg (-1) (dg (x.natAbs / y.natAbs+1))=aS (x.fdiv y):=dc (by rw[eq,abk,abl]) fun _=>by rw[eq,Int.sign_neg,abf (show (0:Int)<((x.natAbs / y.natAbs+1:Nat):Int) by exact Int.natCast_pos.2 (Nat.succ_pos _))]
     have hs2:fg y.sign (dg (y.natAbs-x.natAbs % y.natAbs))=aS (x.fmod y):=by
      refine dc ?_ fun hn=>?_
      ·rw[er];rcases cG y with ⟨e',h3⟩ | ⟨e',h3⟩ | ⟨e',h3⟩<;>rw[e']<;>omega
      ·rw[er,abj,abm,abf (show (0:Int)<((y.natAbs-x.natAbs % y.natAbs:Nat):Int) by omega),abn]
     simp only[go_sem,go_sem_proc,aao,bT,dR,ir,co,bz,hr,hr2,hl1,hl2,hy0',hw,hdiv,hne,hneg,hadd,hsub,hla,hlb,hs1,hs2,aa,aap,bH,dm,cY]
     repeat' (first|refine qS ?_ ?_|fail)<;>intro h<;>simp only[h,go_sem,go_sem_proc,aao,bT,dR,ir,co,bz,hr,hr2,hl1,hl2,hy0',hw,hdiv,hne,hneg,hadd,hsub,hla,hlb,hs1,hs2,aa,aap,bH,dm,cY]
    ·obtain⟨eq,er⟩:=lF hy0 hlow
     have hlow':(decide (x.sign*y.sign≥0)=false∧(((dg (x.natAbs % y.natAbs)).length:Int)==0)=true)∨decide (x.sign*y.sign≥0)=true:=by
      by_cases hn:x.sign*y.sign<0
      ·left
       have:x.natAbs % y.natAbs=0:=Decidable.not_not.1 fun h=>hlow ⟨hn,h⟩
       rw[this];exact⟨decide_eq_false (by omega),rfl⟩
      ·right;exact decide_eq_true (by omega)
     have hla:(dg (x.natAbs / y.natAbs)).length≤1000000:=by omega
     have hlb:(dg (x.natAbs % y.natAbs)).length≤1000000:=by omega
     have hs1:fg (x.sign*y.sign) (dg (x.natAbs / y.natAbs))=aS (x.fdiv y):=by
      refine dc ?_ fun hn=>?_
      ·rw[eq]
       have hgen:∀ Q:Nat,(x=0→Q=0)→(x.sign*y.sign*(Q:Int)).natAbs=Q:=by
        intro Q h0;rcases cG x with ⟨e,h1⟩ | ⟨e,h1⟩ | ⟨e,h1⟩<;>rcases cG y with ⟨e',h3⟩ | ⟨e',h3⟩ | ⟨e',h3⟩<;>rw[e,e']<;>first | omega | (rw[h0 h1];rfl)
       exact hgen _ fun h0=>by rw[h0];exact Nat.zero_div _
      ·rw[eq,hp,abj,abj,abj,abm,abm,abf (show (0:Int)<((x.natAbs / y.natAbs:Nat):Int) from Int.natCast_pos.2 (abo hn)),abn]
     have hs2:fg x.sign (dg (x.natAbs % y.natAbs))=aS (x.fmod y):=by
      refine dc ?_ fun hn=>?_
      ·rw[er]
       have hgen:∀ Q:Nat,(x=0→Q=0)→(x.sign*(Q:Int)).natAbs=Q:=by
        intro Q h0;rcases cG x with ⟨e,h1⟩ | ⟨e,h1⟩ | ⟨e,h1⟩<;>rw[e]<;>first | omega | (rw[h0 h1];rfl)
       exact hgen _ fun h0=>by rw[h0];exact Nat.zero_mod _
      ·rw[er,abj,abm,abf (show (0:Int)<((x.natAbs % y.natAbs:Nat):Int) from Int.natCast_pos.2 (abo hn)),abn]
     rcases hlow' with ⟨hlow1,hlow2⟩ | hlow1
     ·simp only[go_sem,go_sem_proc,aao,bT,dR,ir,co,bz,hr,hr2,hl1,hl2,hy0',hw,hdiv,hlow1,hlow2,hla,hlb,hs1,hs2,aa,aap,bH,dm,cY]
      repeat' (first|refine qS ?_ ?_|fail)<;>intro h<;>simp only[h,go_sem,go_sem_proc,aao,bT,dR,ir,co,bz,hr,hr2,hl1,hl2,hy0',hw,hdiv,hlow1,hlow2,hla,hlb,hs1,hs2,aa,aap,bH,dm,cY]
     ·simp only[go_sem,go_sem_proc,aao,bT,dR,ir,co,bz,hr,hr2,hl1,hl2,hy0',hw,hdiv,hlow1,hla,hlb,hs1,hs2,aa,aap,bH,dm,cY]
      repeat' (first|refine qS ?_ ?_|fail)<;>intro h<;>simp only[h,go_sem,go_sem_proc,aao,bT,dR,ir,co,bz,hr,hr2,hl1,hl2,hy0',hw,hdiv,hlow1,hla,hlb,hs1,hs2,aa,aap,bH,dm,cY]
  ·have hr2:aK (s2,l2)=false:=by simpa using hr2
   have hm:jv (s,l) (s2,l2)=((0,[]),(0,[]),1):=by unfold jv;rw[hr2,aaZ];rfl
   rw[hm];simp only[go_sem,go_sem_proc,aao,bT,dR,ir,co,bz,hr,hr2,hl1,hl2,bH,dm,aaK]
   repeat' (first|refine qS ?_ ?_|fail)<;>intro h<;>simp only[h,go_sem,go_sem_proc,aao,bT,dR,ir,co,bz,hr,hr2,hl1,hl2,bH,dm,aaK]
 ·have hr:aK (s,l)=false:=by simpa using hr
  have hm:jv (s,l) (s2,l2)=((0,[]),(0,[]),1):=by unfold jv;rw[hr,aa0];rfl
  rw[hm];simp only[go_sem,go_sem_proc,aao,bT,dR,ir,co,bz,hr,hl1,hl2,bH,dm,aaK]
  repeat' (first|refine qS ?_ ?_|fail)<;>intro h<;>simp only[h,go_sem,go_sem_proc,aao,bT,dR,ir,co,bz,hr,hl1,hl2,bH,dm,aaK]
def mf_ref05_Same:MFunc :=
 { n:=17,np:=2,res:=[.t 4],body :=
 (.seq (.ops [
 Zk 2 120002 0,Zk 3 120003 1,Zb 4 false])
 (.seq (.ops [
 Zf 5 0 2,Zu 6 2 5,Zf 7 0 3,Zu 8 2 7,⟨some 9,none,.call gP [(.t 6),(.t 8)]⟩,Zv 10 9,⟨some 11,some (10,true),.fad 2 (.t 2)⟩,⟨some 12,some (10,true),.load 2 true (.t 11)⟩,⟨some 13,some (10,true),.fad 2 (.t 3)⟩,⟨some 14,some (10,true),.load 2 true (.t 13)⟩,⟨some 15,some (10,true),.call gP [(.t 12),(.t 14)]⟩,Zq 16 10 15,Zv 4 16])
 .ret)) }
def mf_ref05_Of:MFunc :=
 { n:=13,np:=2,res:=[.cell 4 4 true,.t 5],body :=
 (.seq (.ops [
 ⟨some 4,none,.alloc 124004 [(ZI 0),.nil,(ZI 0),.nil]⟩,Zi 5 0])
 (.seq (.ops [
 Zv 6 0,⟨some 7,none,.call lC [(.t 6)]⟩,Zv 8 1,⟨some 9,none,.call lC [(.t 8)]⟩,⟨some 10,none,.call mU [(.t 7),(.t 9)]⟩,Zx 11 0 10,Zx 12 1 10,Zs 4 4 11,Zv 5 12])
 .ret)) }
def mf_ref05_SameBig:MFunc :=
 { n:=38,np:=2,res:=[.t 4],body :=
 (.seq (.ops [
 Zk 2 142002 0,Zk 3 142003 1,Zb 4 false])
 (.seq (.seq (.ops [
 Zf 6 0 2,Zl 7 1 6,Zf 8 0 3,Zl 9 1 8,Zo 10 .neq 7 9,Zv 11 10,⟨some 12,some (11,false),.fad 1 (.t 2)⟩,⟨some 13,some (11,false),.load 1 false (.t 12)⟩,⟨some 14,some (11,false),.len (.t 13)⟩,⟨some 15,some (11,false),.fad 1 (.t 3)⟩,⟨some 16,some (11,false),.load 1 false (.t 15)⟩,⟨some 17,some (11,false),.len (.t 16)⟩,⟨some 18,some (11,false),.bin .neq (.t 14) (.t 17)⟩,Zp 19 11 18])
 (.cond (.t 19)
 (.seq (.ops [
 Zb 4 false])
 .ret)
 .skip))
 (.seq (.seq (.ops [
 Zi 5 0])
 (.block 0
 (.loop
 (.seq (.seq (.ops [
 Zv 20 5,Zf 21 1 2,Zl 22 1 21,Zn 23 22,Zo 24 .lss 20 23])
 (.cond (.t 24)
 .skip
 (.exit 0)))
 (.seq (.block 1
 (.seq (.opsD [
 Zf 27 1 2,Zl 28 1 27,Zv 29 5,Za 30 1 28 29,Zl 31 1 30,Zf 32 1 3,Zl 33 1 32,Zv 34 5,Za 35 1 33 34,Zl 36 1 35,Zo 37 .neq 31 36] [[],[],[],[],[],[],[],[],[],[],[]])
 (.cond (.t 37)
 (.seq (.ops [
 Zb 4 false])
 .ret)
 .skip)))
 (.ops [
 Zv 25 5,Zc 26 .add 25 1,Zv 5 26]))))))
 (.seq (.ops [
 Zb 4 true])
 .ret)))) }
def mf_ref05_New:MFunc :=
 { n:=57,np:=2,res:=[.cell 4 4 true,.t 5],body :=
 (.seq (.ops [
 Zk 2 143002 0,Zk 3 143003 1,⟨some 4,none,.alloc 143004 [(ZI 0),.nil,(ZI 0),.nil]⟩,Zi 5 0])
 (.seq (.seq (.ops [
 Zu 14 2 2,⟨some 15,none,.call cw [(.t 14)]⟩,Zt 16 15,Zv 17 16,⟨some 18,some (17,false),.load 2 true (.t 3)⟩,⟨some 19,some (17,false),.call cw [(.t 18)]⟩,⟨some 20,some (17,false),.un .not (.t 19)⟩,Zp 21 17 20])
 (.cond (.t 21)
 (.seq (.ops [
 ⟨some 22,none,.build [(ZI 0),.nil,(ZI 0),.nil] []⟩,Zs 4 4 22,Zi 5 1])
 .ret)
 .skip))
 (.seq (.seq (.ops [
 Zf 23 0 3,Zl 24 1 23,Zc 25 .eql 24 0])
 (.cond (.t 25)
 (.seq (.ops [
 ⟨some 26,none,.build [(ZI 0),.nil,(ZI 0),.nil] []⟩,Zs 4 4 26,Zi 5 15])
 .ret)
 .skip))
 (.seq (.seq (.ops [
 Zf 27 0 3,Zl 28 1 27,Zc 29 .lss 28 0])
 (.cond (.t 29)
 (.seq (.ops [
 Zu 30 2 2,⟨some 31,none,.call kz [(.t 30)]⟩,Zs 2 2 31])
 (.ops [
 Zu 32 2 3,⟨some 33,none,.call kz [(.t 32)]⟩,Zs 2 3 33]))
 .skip))
 (.seq (.ops [
 Zu 35 2 2,Zu 36 2 3,⟨some 37,none,.call na [(.t 35),(.t 36)]⟩,Zv 34 37,Zx 38 0 34,Zx 39 1 34,⟨some 6,none,.alloc 143006 [(ZI 0),.nil]⟩,Zs 2 6 38,Zv 7 39])
 (.seq (.ops [
 Zu 41 2 2,Zu 42 2 6,⟨some 43,none,.call kl [(.t 41),(.t 42)]⟩,Zv 40 43,Zx 44 0 40,Zx 45 1 40,Zx 46 2 40,⟨some 8,none,.alloc 143008 [(ZI 0),.nil]⟩,⟨some 9,none,.alloc 143009 [(ZI 0),.nil]⟩,Zs 2 8 44,Zs 2 9 45,Zv 10 46])
 (.seq (.ops [
 Zu 48 2 3,Zu 49 2 6,⟨some 50,none,.call kl [(.t 48),(.t 49)]⟩,Zv 47 50,Zx 51 0 47,Zx 52 1 47,Zx 53 2 47,⟨some 11,none,.alloc 143011 [(ZI 0),.nil]⟩,⟨some 12,none,.alloc 143012 [(ZI 0),.nil]⟩,Zs 2 11 51,Zs 2 12 52,Zv 13 53])
 (.seq (.ops [
 Zu 54 2 8,Zu 55 2 11,⟨some 56,none,.build [(ZI 0),.nil,(ZI 0),.nil] [(0,2,(.t 54)),(2,2,(.t 55))]⟩,Zs 4 4 56,Zi 5 0])
 .ret)))))))) }
noncomputable def Ei:List Data→Option PRes:=FF (α:=Int × (List Int) × Int × (List Int)) (fun (s,l,s2,l2)=>([.agg [.int .i64 s,.sl (l.map aa)],.agg [.int .i64 s2,.sl (l2.map aa)]]:List Data)) (fun (s,l,s2,l2)=>aH (l.length≤1000000∧l2.length≤1000000) (.same (bD (fW (s,l) (s2,l2)))))
theorem Dx:∀ a b:Int × (List Int) × Int × (List Int),(fun (s,l,s2,l2)=>([.agg [.int .i64 s,.sl (l.map aa)],.agg [.int .i64 s2,.sl (l2.map aa)]]:List Data)) a=(fun (s,l,s2,l2)=>([.agg [.int .i64 s,.sl (l.map aa)],.agg [.int .i64 s2,.sl (l2.map aa)]]:List Data)) b→a=b:=by
  rintro⟨s1,l1,s21,l21⟩ ⟨s2,l2,s22,l22⟩ h;simp only[List.cons.injEq,Data.agg.injEq,Data.int.injEq,Data.sl.injEq] at h;exact aan h.1.1.2 (aan (af aj _ _ h.1.2.1) (aan h.2.1.1.2 (af aj _ _ h.2.1.2.1)))
@[go_sem] theorem QR (s:Int) (l:List Int) (s2:Int) (l2:List Int) (hc:l.length≤1000000∧l2.length≤1000000):Ei [.agg [.int .i64 s,.sl (l.map aa)],.agg [.int .i64 s2,.sl (l2.map aa)]]=some (.same (bD (fW (s,l) (s2,l2)))):=(aY Dx (s,l,s2,l2)).trans (al hc _)
theorem OU (T:Tab) (bT:T cw=mkE mB) (ue:T kz=mkE Dh) (vE:T na=mkE C0) (t9:T kl=mkE Cw) (s:Int) (l:List Int) (s2:Int) (l2:List Int) (hc:l.length≤1000000∧l2.length≤1000000) :
  wp T mf_ref05_New.body (bF mf_ref05_New.res (.same (bD (fW (s,l) (s2,l2))))) ⟨ax [.dat (.agg [.int .i64 s,.sl (l.map aa)]),.dat (.agg [.int .i64 s2,.sl (l2.map aa)])],emp⟩:=by
 refine ap ?_;simp only[mf_ref05_New];obtain⟨hl1,hl2⟩:=hc
 by_cases hr:aK (s,l)=true
 ·by_cases hr2:aK (s2,l2)=true
  ·obtain⟨x,hx,e⟩:=(bn _).1 hr
   obtain⟨y,hy,e2⟩:=(bn _).1 hr2
   by_cases h0:y=0
   ·have hm:fW (s,l) (s2,l2)=(cj,15):=by
     unfold fW;rw[hr,hr2,e2,aU,if_pos (by rfl),if_pos h0]
    rw[hm]
    cases e
    cases e2;have hs:(y.sign==0)=true:=by rw[h0];rfl
    refine qI ?_
    repeat' (intro h<;>simp only[h,go_sem,go_sem_proc,aao,bT,ue,vE,t9,hr,hr2,hl1,hl2,hs,bD,ad,cj,aaK]<;>try refine qS ?_ ?_)
   ·have main:∀ p q:Int,p.natAbs<LIM→q.natAbs<LIM→0<q→∃ g:Raw,kw (aS p) (aS q)=(g,0)∧g.2.length≤1000000∧jv (aS p) g=(aS (abp p q).num,aS (p.fmod ((abg p.natAbs q.natAbs:Nat):Int)),0)∧jv (aS q) g=(aS (abp p q).den,aS (q.fmod ((abg p.natAbs q.natAbs:Nat):Int)),0):=by
     intro p q hp hq hq0;have hgl:=rt hp hq;have hgl':((abg p.natAbs q.natAbs:Nat):Int).natAbs<LIM:=by rw[abl];exact hgl
     have hg0:=tX (p:=p) (q:=q) (by omega);obtain⟨h1,h2⟩:=nr (p:=p) hq0;refine⟨aS ((abg p.natAbs q.natAbs:Nat):Int),?_,eZ hgl',?_,?_⟩
     ·unfold kw;rw[bP hp,bP hq,aU,aU];rfl
     ·rw[lg hp hgl' (by omega),h1]
     ·rw[lg hq hgl' (by omega),h2]
    have hs0:(y.sign==0)=false:=by simpa using h0
    rcases Int.lt_or_gt_of_ne h0 with hneg | hpos
    ·have hs1:decide (y.sign<0)=true:=by rw[aa7 hneg];rfl
     obtain⟨⟨g1,g2⟩,hg,hgl,hd1,hd2⟩:=main (-x) (-y) (by omega) (by omega) (by omega)
     have hm:fW (s,l) (s2,l2)=(ah (abp (-x) (-y)),0):=by
      rw[e,e2,i9 hx hy h0,Rat.neg_divInt_neg]
     rw[hm];have hn1:jd (s,l)=aS (-x):=by unfold jd;rw[if_pos hr,e,aU]
     have hn2:jd (s2,l2)=aS (-y):=by unfold jd;rw[if_pos hr2,e2,aU]
     have hy1:s2=y.sign:=congrArg Prod.fst e2;have hl3:(aS (-x)).2.length≤1000000:=eZ (by omega);have hl4:(aS (-y)).2.length≤1000000:=eZ (by omega);clear e e2;unfold ah;generalize aS (-x)=X at *;generalize aS (-y)=Y at *;obtain⟨x1,x2⟩:=X;obtain⟨y1,y2⟩:=Y;rw[←hy1] at hs0 hs1;refine qI ?_
     repeat' (intro h<;>simp only[h,go_sem,go_sem_proc,aao,bT,ue,vE,t9,hr,hr2,hl1,hl2,hs0,hs1,hn1,hn2,hl3,hl4,hg,hgl,hd1,hd2,bD,ad,dY,dm,bH]<;>try refine qS ?_ ?_)
    ·have hs1:decide (y.sign<0)=false:=by rw[abf hpos];rfl
     obtain⟨⟨g1,g2⟩,hg,hgl,hd1,hd2⟩:=main x y hx hy hpos
     have hm:fW (s,l) (s2,l2)=(ah (abp x y),0):=by
      rw[e,e2,i9 hx hy h0]
     rw[hm];have hy1:s2=y.sign:=congrArg Prod.fst e2;rw[←e] at hg hd1;rw[←e2] at hg hd2;rw[←hy1] at hs0 hs1;unfold ah;refine qI ?_
     repeat' (intro h<;>simp only[h,go_sem,go_sem_proc,aao,bT,ue,vE,t9,hr,hr2,hl1,hl2,hs0,hs1,hg,hgl,hd1,hd2,bD,ad,dY,dm,bH]<;>try refine qS ?_ ?_)
  ·have hr2:aK (s2,l2)=false:=by simpa using hr2
   have hm:fW (s,l) (s2,l2)=(cj,1):=by unfold fW;rw[hr2,aaZ];rfl
   rw[hm];refine qI ?_
   repeat' (intro h<;>simp only[h,go_sem,go_sem_proc,aao,bT,ue,vE,t9,hr,hr2,hl1,hl2,bD,ad,cj,aaK]<;>try refine qS ?_ ?_)
 ·have hr:aK (s,l)=false:=by simpa using hr
  have hm:fW (s,l) (s2,l2)=(cj,1):=by unfold fW;rw[hr,aa0];rfl
  rw[hm];refine qI ?_
  repeat' (intro h<;>simp only[h,go_sem,go_sem_proc,aao,bT,ue,vE,t9,hr,hl1,hl2,bD,ad,cj,aaK]<;>try refine qS ?_ ?_)
noncomputable def JC:List Data→Option PRes:=FF (α:=Int × Int) (fun (p,q)=>([.int .i64 p,.int .i64 q]:List Data)) (fun (p,q)=>aH (ct p∧ct q) (.same (bD (fW (aS p) (aS q)))))
theorem HP:∀ a b:Int × Int,(fun (p,q)=>([.int .i64 p,.int .i64 q]:List Data)) a=(fun (p,q)=>([.int .i64 p,.int .i64 q]:List Data)) b→a=b:=by
  rintro⟨p1,q1⟩ ⟨p2,q2⟩ h;simp only[List.cons.injEq,Data.int.injEq,Data.agg.injEq,Data.sl.injEq,Data.bool.injEq,Data.str.injEq,Data.ptr.injEq,Data.tup.injEq,Prod.mk.injEq,true_and,and_true] at h ⊢
  first | exact h | simpa [aa6,and_assoc] using h | grind
@[go_sem] theorem Ra (p:Int) (q:Int) (hc:ct p∧ct q):JC [.int .i64 p,.int .i64 q]=some (.same (bD (fW (aS p) (aS q)))):=(aY HP (p,q)).trans (al hc _)
theorem QZ (T:Tab) (Rt:T lC=mkE JI) (OO:T mU=mkE Ei) (p:Int) (q:Int) (hc:ct p∧ct q) :
  wp T mf_ref05_Of.body (bF mf_ref05_Of.res (.same (bD (fW (aS p) (aS q))))) ⟨ax [.dat (.int .i64 p),.dat (.int .i64 q)],emp⟩:=by
 refine ap ?_;simp only[mf_ref05_Of];obtain⟨h1,h2⟩:=hc;have l1:(aS p).2.length≤1000000:=eZ (jI h1);have l2:(aS q).2.length≤1000000:=eZ (jI h2);generalize hP:aS p=P at *;generalize hQ:aS q=Q at *;obtain⟨x1,x2⟩:=P;obtain⟨y1,y2⟩:=Q;refine qI ?_
 repeat' (intro h<;>simp only[h,go_sem,go_sem_proc,aao,Rt,OO,h1,h2,hP,hQ,l1,l2,bH,bD,ad]<;>try refine qS ?_ ?_)
noncomputable def pr:List Data→Option PRes:=FF (α:=Int × (List Int) × Int × (List Int)) (fun (s,l,s2,l2)=>([.agg [.int .i64 s,.sl (l.map aa)],.agg [.int .i64 s2,.sl (l2.map aa)]]:List Data)) (fun (s,l,s2,l2)=>aH (l.length≤1000000∧l2.length≤1000000) (.same (.bool (oh (s,l) (s2,l2)))))
theorem ux:∀ a b:Int × (List Int) × Int × (List Int),(fun (s,l,s2,l2)=>([.agg [.int .i64 s,.sl (l.map aa)],.agg [.int .i64 s2,.sl (l2.map aa)]]:List Data)) a=(fun (s,l,s2,l2)=>([.agg [.int .i64 s,.sl (l.map aa)],.agg [.int .i64 s2,.sl (l2.map aa)]]:List Data)) b→a=b:=by
  rintro⟨s1,l1,s21,l21⟩ ⟨s2,l2,s22,l22⟩ h;simp only[List.cons.injEq,Data.agg.injEq,Data.int.injEq,Data.sl.injEq] at h;exact aan h.1.1.2 (aan (af aj _ _ h.1.2.1) (aan h.2.1.1.2 (af aj _ _ h.2.1.2.1)))
@[go_sem] theorem Ly (s:Int) (l:List Int) (s2:Int) (l2:List Int) (hc:l.length≤1000000∧l2.length≤1000000):pr [.agg [.int .i64 s,.sl (l.map aa)],.agg [.int .i64 s2,.sl (l2.map aa)]]=some (.same (.bool (oh (s,l) (s2,l2)))):=(aY ux (s,l,s2,l2)).trans (al hc _)
theorem DT (T:Tab)  (s:Int) (l:List Int) (s2:Int) (l2:List Int) (hc:l.length≤1000000∧l2.length≤1000000) :
  wp T mf_ref05_SameBig.body (bF mf_ref05_SameBig.res (.same (.bool (oh (s,l) (s2,l2))))) ⟨ax [.dat (.agg [.int .i64 s,.sl (l.map aa)]),.dat (.agg [.int .i64 s2,.sl (l2.map aa)])],emp⟩:=by
 refine ap ?_;simp only[mf_ref05_SameBig];obtain⟨hl1,hl2⟩:=hc
 by_cases hs:s=s2
 ·subst hs
  by_cases hl:l.length=l2.length
  ·have e1:(((l.length:Nat):Int)==((l2.length:Nat):Int))=true:=by simp;omega
   simp only[go_sem,go_sem_proc,aao,beq_self_eq_true,aap,e1,aaW,bne];refine ae [2,3] [142002,142003] (fun (i:Nat) tm mem=>i≤l.length∧l.take i=l2.take i∧tm 5 = .dat (.int .i64 i)) (fun i=>l.length-i) 0 (by refine⟨by omega,by simp,rfl⟩) ?_;intro vs ms hvs hms;simp only[go_sem,go_sem_proc,aao,aap] at hvs hms;subst hvs hms;rintro i tm mem hk hm ⟨hi,hf,h5⟩;simp only[go_sem,go_sem_proc,aao,List.cons.injEq] at hk hm;obtain⟨h2,h3⟩:=hk;obtain⟨m2,m3⟩:=hm;rcases aat (i<l.length) with hlt | hge
   ·have hx:l[i]?=some l[i]:=aam hlt
    have hy:l2[i]?=some l2[i]:=aam (by omega);have hn1:l.take (i+1)=l.take i++[l[i]]:=by rw[abq,hx];rfl
    have hn2:l2.take (i+1)=l2.take i++[l2[i]]:=by rw[abq,hy];rfl
    generalize l[i]=x at *;generalize l2[i]=y at *;have d1:decide ((i:Int)<(l.length:Int))=true:=decide_eq_true (by omega);have w3:IntKind.i64.wrap ((i:Int)+1)=((i+1:Nat):Int):=by rw[an _ (by omega) (by omega)];omega
    by_cases hxy:x=y
    ·subst hxy
     simp only[go_sem,go_sem_proc,aao,h2,h3,h5,m2,m3,hx,hy,d1,w3,aa,aap,aau,List.cons.injEq,beq_self_eq_true,aaW]
     repeat' (first|refine qS ?_ ?_|fail)<;>intro h<;>simp only[h,go_sem,go_sem_proc,aao,h2,h3,h5,m2,m3,hx,hy,d1,w3,aa,aap,aau,List.cons.injEq,beq_self_eq_true,aaW]
     exact⟨i+1,by omega,by omega,by rw[hn1,hn2,hf],rfl⟩
    ·have hne:(x==y)=false:=by simpa using hxy
     have hr:oh (s,l) (s,l2)=false:=by
      refine decide_eq_false fun h=>hxy ?_
      rw[Prod.mk.injEq] at h;rw[h.2,hy] at hx;exact (Option.some.inj hx).symm
     rw[hr];simp only[go_sem,go_sem_proc,aao,h2,h3,h5,m2,m3,hx,hy,d1,w3,hne,aa,aap,aau,List.cons.injEq,aaX]
     repeat' (first|refine qS ?_ ?_|fail)<;>intro h<;>simp only[h,go_sem,go_sem_proc,aao,h2,h3,h5,m2,m3,hx,hy,d1,w3,hne,aa,aap,aau,List.cons.injEq,aaX]
   ·have d1:decide ((i:Int)<(l.length:Int))=false:=decide_eq_false (by omega)
    have hr:oh (s,l) (s,l2)=true:=by
     refine decide_eq_true ?_;rw[aaw (by omega),aaw (by omega)] at hf;rw[hf]
    rw[hr];simp only[go_sem,go_sem_proc,aao,h2,h3,h5,m2,m3,d1,aap]
    repeat' (first|refine qS ?_ ?_|fail)<;>intro h<;>simp only[h,go_sem,go_sem_proc,aao,h2,h3,h5,m2,m3,d1,aap]
  ·have e1:(((l.length:Nat):Int)==((l2.length:Nat):Int))=false:=by simp;omega
   have hr:oh (s,l) (s,l2)=false:=by
    refine decide_eq_false fun h=>hl ?_
    rw[Prod.mk.injEq] at h;rw[h.2]
   rw[hr];simp only[go_sem,go_sem_proc,aao,beq_self_eq_true,aap,e1,aaW,aaX,bne]
   repeat' (first|refine qS ?_ ?_|fail)<;>intro h<;>simp only[h,go_sem,go_sem_proc,aao,beq_self_eq_true,aap,e1,aaW,aaX,bne]
 ·have hne:(s==s2)=false:=by simpa using hs
  have hr:oh (s,l) (s2,l2)=false:=by
   refine decide_eq_false fun h=>hs ?_
   rw[Prod.mk.injEq] at h;exact h.1
  rw[hr];simp only[go_sem,go_sem_proc,aao,hne,aap,aaW,aaX,bne]
  repeat' (first|refine qS ?_ ?_|fail)<;>intro h<;>simp only[h,go_sem,go_sem_proc,aao,hne,aap,aaW,aaX,bne]
def xe (a b:aG):Bool:=decide (a=b)
noncomputable def ym:List Data→Option PRes:=FF (α:=Int × (List Int) × Int × (List Int) × Int × (List Int) × Int × (List Int)) (fun (s,l,s2,l2,s3,l3,s4,l4)=>([.agg [.int .i64 s,.sl (l.map aa),.int .i64 s2,.sl (l2.map aa)],.agg [.int .i64 s3,.sl (l3.map aa),.int .i64 s4,.sl (l4.map aa)]]:List Data)) (fun (s,l,s2,l2,s3,l3,s4,l4)=>aH (l.length≤1000000∧l2.length≤1000000∧l3.length≤1000000∧l4.length≤1000000) (.same (.bool (xe ((s,l),(s2,l2)) ((s3,l3),(s4,l4))))))
theorem AR:∀ a b:Int × (List Int) × Int × (List Int) × Int × (List Int) × Int × (List Int),(fun (s,l,s2,l2,s3,l3,s4,l4)=>([.agg [.int .i64 s,.sl (l.map aa),.int .i64 s2,.sl (l2.map aa)],.agg [.int .i64 s3,.sl (l3.map aa),.int .i64 s4,.sl (l4.map aa)]]:List Data)) a=(fun (s,l,s2,l2,s3,l3,s4,l4)=>([.agg [.int .i64 s,.sl (l.map aa),.int .i64 s2,.sl (l2.map aa)],.agg [.int .i64 s3,.sl (l3.map aa),.int .i64 s4,.sl (l4.map aa)]]:List Data)) b→a=b:=by
  rintro⟨s1,l1,s21,l21,s31,l31,s41,l41⟩ ⟨s2,l2,s22,l22,s32,l32,s42,l42⟩ h;simp only[List.cons.injEq,Data.agg.injEq,Data.int.injEq,Data.sl.injEq] at h;exact aan h.1.1.2 (aan (af aj _ _ h.1.2.1) (aan h.1.2.2.1.2 (aan (af aj _ _ h.1.2.2.2.1) (aan h.2.1.1.2 (aan (af aj _ _ h.2.1.2.1) (aan h.2.1.2.2.1.2 (af aj _ _ h.2.1.2.2.2.1)))))))
@[go_sem] theorem OS (s:Int) (l:List Int) (s2:Int) (l2:List Int) (s3:Int) (l3:List Int) (s4:Int) (l4:List Int) (hc:l.length≤1000000∧l2.length≤1000000∧l3.length≤1000000∧l4.length≤1000000):ym [.agg [.int .i64 s,.sl (l.map aa),.int .i64 s2,.sl (l2.map aa)],.agg [.int .i64 s3,.sl (l3.map aa),.int .i64 s4,.sl (l4.map aa)]]=some (.same (.bool (xe ((s,l),(s2,l2)) ((s3,l3),(s4,l4))))):=(aY AR (s,l,s2,l2,s3,l3,s4,l4)).trans (al hc _)
theorem MH (T:Tab) (uu:T gP=mkE pr) (s:Int) (l:List Int) (s2:Int) (l2:List Int) (s3:Int) (l3:List Int) (s4:Int) (l4:List Int) (hc:l.length≤1000000∧l2.length≤1000000∧l3.length≤1000000∧l4.length≤1000000) :
  wp T mf_ref05_Same.body (bF mf_ref05_Same.res (.same (.bool (xe ((s,l),(s2,l2)) ((s3,l3),(s4,l4)))))) ⟨ax [.dat (.agg [.int .i64 s,.sl (l.map aa),.int .i64 s2,.sl (l2.map aa)]),.dat (.agg [.int .i64 s3,.sl (l3.map aa),.int .i64 s4,.sl (l4.map aa)])],emp⟩:=by
 refine ap ?_;simp only[mf_ref05_Same];obtain⟨hl1,hl2,hl3,hl4⟩:=hc
 have e:xe ((s,l),(s2,l2)) ((s3,l3),(s4,l4))=(oh (s,l) (s3,l3)&&oh (s2,l2) (s4,l4)):=by
  unfold xe oh;rw[aa4,aa5,decide_eq_true_eq,decide_eq_true_eq,decide_eq_true_eq,Prod.mk.injEq]
 rw[e];rcases h1:oh (s,l) (s3,l3)
 ·refine qI ?_
  repeat' (intro h<;>simp only[h,go_sem,go_sem_proc,aao,uu,hl1,hl2,hl3,hl4,h1,aa0]<;>try refine qS ?_ ?_)
 ·refine qI ?_
  repeat' (intro h<;>simp only[h,go_sem,go_sem_proc,aao,uu,hl1,hl2,hl3,hl4,h1,aaY]<;>try refine qS ?_ ?_)

def mf_ref06_Same:MFunc :=
 { n:=27,np:=2,res:=[.t 4],body :=
 (.seq (.ops [
 Zb 4 false])
 (.seq (.seq (.ops [
 Zv 6 0,Zn 7 6,Zv 8 1,Zn 9 8,Zo 10 .neq 7 9])
 (.cond (.t 10)
 (.seq (.ops [
 Zb 4 false])
 .ret)
 .skip))
 (.seq (.seq (.ops [
 Zi 5 0])
 (.block 0
 (.loop
 (.seq (.seq (.ops [
 Zv 11 5,Zv 12 0,Zn 13 12,Zo 14 .lss 11 13])
 (.cond (.t 14)
 .skip
 (.exit 0)))
 (.seq (.block 1
 (.seq (.opsD [
 Zv 17 0,Zv 18 5,Za 19 4 17 18,Zu 20 4 19,Zv 21 1,Zv 22 5,Za 23 4 21 22,Zu 24 4 23,⟨some 25,none,.call lQ [(.t 20),(.t 24)]⟩,Zt 26 25] [[],[],[],[],[],[],[],[],[],[]])
 (.cond (.t 26)
 (.seq (.ops [
 Zb 4 false])
 .ret)
 .skip)))
 (.ops [
 Zv 15 5,Zc 16 .add 15 1,Zv 5 16]))))))
 (.seq (.ops [
 Zb 4 true])
 .ret)))) }
theorem rq {α:Type} {p:α→Bool} {l:List α} {i:Nat} {x:α} (hx:l[i]?=some x):(l.take (i+1)).all p=((l.take i).all p&&p x):=by
 rw[abq,hx,List.all_append];simp
theorem Et {α:Type} {p:α→Bool} {l:List α} {i:Nat} {x:α} (hx:l[i]?=some x) (h:p x=false):l.all p=false:=by
 rw[List.all_eq_false];exact⟨x,abr hx,by simp [h]⟩
def oo (a b:List aG):Bool:=decide (a=b)
noncomputable def th:List Data→Option PRes:=FF (α:=(List aG) × (List aG)) (fun (l,l2)=>([.sl (l.map ad),.sl (l2.map ad)]:List Data)) (fun (l,l2)=>aH (okL l∧okL l2) (.same (.bool (oo l l2))))
theorem Ax:∀ a b:(List aG) × (List aG),(fun (l,l2)=>([.sl (l.map ad),.sl (l2.map ad)]:List Data)) a=(fun (l,l2)=>([.sl (l.map ad),.sl (l2.map ad)]:List Data)) b→a=b:=by
  rintro⟨l1,l21⟩ ⟨l2,l22⟩ h;simp only[List.cons.injEq,Data.int.injEq,Data.sl.injEq] at h;exact aan (af cV _ _ h.1) (af cV _ _ h.2.1)
@[go_sem] theorem Dc (l:List aG) (l2:List aG) (hc:okL l∧okL l2):th [.sl (l.map ad),.sl (l2.map ad)]=some (.same (.bool (oo l l2))):=(aY Ax (l,l2)).trans (al hc _)
theorem NG (T:Tab) (jb:T lQ=mkE ym) (l:List aG) (l2:List aG) (hc:okL l∧okL l2) :
  wp T mf_ref06_Same.body (bF mf_ref06_Same.res (.same (.bool (oo l l2)))) ⟨ax [.dat (.sl (l.map ad)),.dat (.sl (l2.map ad))],emp⟩:=by
 refine ap ?_;simp only[mf_ref06_Same];obtain⟨⟨hl1,ho1⟩,hl2,ho2⟩:=hc
 by_cases hl:l.length=l2.length
 ·have e1:(((l.length:Nat):Int)==((l2.length:Nat):Int))=true:=by simp;omega
  simp only[go_sem,go_sem_proc,aao,jb,aap,e1,aaW,bne];refine ae [0,1] [] (fun (i:Nat) tm mem=>i≤l.length∧l.take i=l2.take i∧tm 5 = .dat (.int .i64 i)) (fun i=>l.length-i) 0 (by refine⟨by omega,by simp,rfl⟩) ?_;intro vs ms hvs hms;simp only[go_sem,go_sem_proc,aao,jb,aap] at hvs hms;subst hvs hms;rintro i tm mem hk hm ⟨hi,hf,h5⟩;simp only[go_sem,go_sem_proc,aao,jb,List.cons.injEq] at hk;obtain⟨h0,h1⟩:=hk;rcases aat (i<l.length) with hlt | hge
  ·obtain⟨⟨⟨a,b⟩,⟨c,e⟩⟩,hx⟩:∃ f,l[i]?=some f:=⟨_,aam hlt⟩
   obtain⟨⟨⟨a',b'⟩,⟨c',e'⟩⟩,hy⟩:∃ f,l2[i]?=some f:=⟨_,aam (by omega)⟩;obtain⟨o1,o2⟩:=ho1 _ (abr hx);obtain⟨o3,o4⟩:=ho2 _ (abr hy);dsimp only at o1 o2 o3 o4;have d1:decide ((i:Int)<(l.length:Int))=true:=decide_eq_true (by omega);have w3:IntKind.i64.wrap ((i:Int)+1)=((i+1:Nat):Int):=by rw[an _ (by omega) (by omega)];omega
   rcases hs:xe ((a,b),(c,e)) ((a',b'),(c',e'))
   ·have hr:oo l l2=false:=by
     refine decide_eq_false fun h=>of_decide_eq_false hs ?_
     rw[h,hy] at hx;exact (Option.some.inj hx).symm
    rw[hr];simp only[go_sem,go_sem_proc,aao,jb,h0,h1,h5,hx,hy,d1,w3,o1,o2,o3,o4,hs,ad,aap,aau]
    repeat' (first|refine qS ?_ ?_|fail)<;>intro h<;>simp only[h,go_sem,go_sem_proc,aao,jb,h0,h1,h5,hx,hy,d1,w3,o1,o2,o3,o4,hs,ad,aap,aau]
   ·simp only[go_sem,go_sem_proc,aao,jb,h0,h1,h5,hx,hy,d1,w3,o1,o2,o3,o4,hs,ad,aap,aau]
    repeat' (first|refine qS ?_ ?_|fail)<;>intro h<;>simp only[h,go_sem,go_sem_proc,aao,jb,h0,h1,h5,hx,hy,d1,w3,o1,o2,o3,o4,hs,ad,aap,aau]
    exact⟨i+1,by omega,by omega,by rw[abq,abq,hx,hy,hf,of_decide_eq_true hs],rfl⟩
  ·have d1:decide ((i:Int)<(l.length:Int))=false:=decide_eq_false (by omega)
   have hr:oo l l2=true:=by
    refine decide_eq_true ?_;rw[aaw (by omega),aaw (by omega)] at hf;exact hf
   rw[hr];simp only[go_sem,go_sem_proc,aao,jb,h0,h1,h5,d1,aap]
   repeat' (first|refine qS ?_ ?_|fail)<;>intro h<;>simp only[h,go_sem,go_sem_proc,aao,jb,h0,h1,h5,d1,aap]
 ·have e1:(((l.length:Nat):Int)==((l2.length:Nat):Int))=false:=by simp;omega
  have hr:oo l l2=false:=decide_eq_false fun h=>hl (by rw[h])
  rw[hr];simp only[go_sem,go_sem_proc,aao,jb,aap,e1,aaX,bne]
  repeat' (first|refine qS ?_ ?_|fail)<;>intro h<;>simp only[h,go_sem,go_sem_proc,aao,jb,aap,e1,aaX,bne]
end Go.Mini
namespace Go.Mini
open Go
variable {P:Program} {A:Nat→Prop} {w w':World} {B B':Lay} {mem mem':Mem}
structure iM (P:Program) (f:FuncId) (E:List MV→Mem→Option Eff):Prop where
 real:Real P f
 run:∀ args mem eff,E args mem=some eff→∀ A w B vs,MemRel A w B mem→RL w (OA A B) B args vs→Kx P f vs A w B mem eff
def rh (res:List nF) (R:MV→Mem→Prop):bK→St→Prop
 | .exit _,_=>False
 | .normal,st=>∃ m,gG st res=some m∧R m st.mem
 | .ret,st=>∃ m,gG st res=some m∧R m st.mem
@[go_sem] theorem QO {res:List nF} {st:St} (R:MV→Mem→Prop) (id:Nat):rh res R (.exit id) st=False:=_root_.id rfl
@[go_sem] theorem NR {res:List nF} {st:St} (R:MV→Mem→Prop):rh res R .normal st=∃ m,gG st res=some m∧R m st.mem:=_root_.id rfl
@[go_sem] theorem Rh {res:List nF} {st:St} (R:MV→Mem→Prop):rh res R .ret st=∃ m,gG st res=some m∧R m st.mem:=_root_.id rfl
theorem sd {mf:MFunc} {R:MV→Mem→Prop} {e:bK} {st:St} (h:rh mf.res R e st):J5 mf R e st:=by
 cases e with
 | exit id=>exact h
 | normal=>exact h
 | ret=>exact h
theorem zu {kb : Nat} {own : List Nat} {f : FuncId} {fn : Func} {mf : MFunc} (hf : P.funcs[f]? = some fn) (hname : (fn.name == "runtime.NumGoroutine") = false) (htr : jZ P kb own fn = some mf) : Real P f := by
 cases hb:fn.body with
 | none=>simp [jZ,hb] at htr
 | some c=>exact⟨fn,c,hf,hb,hname⟩
def mkQ (Q:List MV→Mem→Option (MV→Mem→Prop)) (args:List MV) (mem:Mem):Option Eff:=(Q args mem).map .rel
@[go_sem] theorem TH (Q:List MV→Mem→Option (MV→Mem→Prop)) (args:List MV) (mem:Mem):mkQ Q args mem=(Q args mem).map .rel:=_root_.id rfl
theorem sc {T : Tab} {kb : Nat} {own : List Nat} (hT : kf P T) (hm : P.follows .mixedOrders = true) {f : FuncId} {fn : Func} {mf : MFunc} (hf : P.funcs[f]? = some fn) (hname : (fn.name == "runtime.NumGoroutine") = false) (htr : jZ P kb own fn = some { mf with body := erase mf.body })
  {Q:List MV→Mem→Option (MV→Mem→Prop)} (h:∀ args mem R,Q args mem=some R→args.length≤mf.n∧wp T mf.body (rh mf.res R) ⟨ax args,mem⟩):iM P f (mkQ Q):=by
 refine⟨zu hf hname htr,fun args mem eff hE A w B vs hmr hv=>?_⟩
 unfold mkQ at hE;rw[abs] at hE;obtain⟨R,hR,rfl⟩:=hE;obtain⟨hlen,hwp⟩:=h args mem R hR;refine Calls.mono (kI (Post:=R) hT hm hf htr hlen (fun e st hk=>sd hk) hwp hmr hv) fun e w' he=>?_
 obtain⟨v,m,mem',B',rfl,hs,hv',hp⟩:=he;exact⟨v,m,mem',B',rfl,hs,hv',hp⟩
inductive iY (J:Key→Prop):MV→Prop
 | dat {d:Data}:iY J (.dat d)
 | nil:iY J .nil
 | ref {k g sz off len:Nat} (h:¬ J k):iY J (.ref k g sz off len)
 | ptr {k g off:Nat} (h:¬ J k):iY J (.ptr k g off)
 | clo {f:FuncId} {caps:List MV} (h:∀ (i:Nat) (m:MV),caps[i]?=some m→iY J m):iY J (.clo f caps)
 | agg {cs:List MV} (h:∀ (i:Nat) (m:MV),cs[i]?=some m→iY J m):iY J (.agg cs)
 | tup {cs:List MV} (h:∀ (i:Nat) (m:MV),cs[i]?=some m→iY J m):iY J (.tup cs)
 | no:iY J .no
 | undef:iY J .undef
theorem K7 {J:Key→Prop} {O:Nat→Prop} (hJ:∀ k,J k→B k=none) {m:MV} {v:Value} (h:VR w O B m v):iY J m:=by
 induction h with
 | dat h=>exact .dat
 | nil=>exact .nil
 | ref he hg hv=>exact .ref fun hj=>by rw[hJ _ hj] at he;cases he
 | ptr he hg hv=>exact .ptr fun hj=>by rw[hJ _ hj] at he;cases he
 | clo hl hd ih=>exact .clo fun i m hi=>ih i m _ hi (aam (by have hlt:=(List.getElem?_eq_some_iff.1 hi).1;omega))
 | agg hl hd ih=>exact .agg fun i m hi=>ih i m _ hi (aam (by have hlt:=(List.getElem?_eq_some_iff.1 hi).1;omega))
 | tup hl hd ih=>exact .tup fun i m hi=>ih i m _ hi (aam (by have hlt:=(List.getElem?_eq_some_iff.1 hi).1;omega))
 | no=>exact .no
 | undef=>exact .undef
open Classical in
noncomputable def mR (J:Key→Prop) (B:Lay):Lay:=fun k=>if J k then none else B k
theorem kA {J:Key→Prop} {b:Nat} (h:Own (mR J B) b):Own B b:=by
 obtain⟨k,e,he,hb⟩:=h;unfold mR at he
 split at he
 ·cases he
 ·exact⟨k,e,he,hb⟩
theorem M5 {J:Key→Prop} {m:MV} {v:Value} (h:VR w (OA A B) B m v) (hc:iY J m):VR w (OA A (mR J B)) (mR J B) m v:=by
 have at_:∀ {k:Key} {e:Bk},¬ J k→B k=some e→mR J B k=some e:=fun hk he=>by unfold mR;rw[if_neg hk];exact he
 induction h with
 | dat h=>exact .dat (h.less fun b hb=>hb.imp kA id)
 | nil=>exact .nil
 | ref he hg hv=>cases hc with | ref hk=>exact .ref (at_ hk he) hg hv
 | ptr he hg hv=>cases hc with | ptr hk=>exact .ptr (at_ hk he) hg hv
 | clo hl hd ih=>cases hc with | clo hc=>exact .clo hl fun i d v hi hv=>ih i d v hi hv (hc i d hi)
 | agg hl hd ih=>cases hc with | agg hc=>exact .agg hl fun i d v hi hv=>ih i d v hi hv (hc i d hi)
 | tup hl hd ih=>cases hc with | tup hc=>exact .tup hl fun i d v hi hv=>ih i d v hi hv (hc i d hi)
 | no=>exact .no
 | undef=>exact .undef
theorem StepOK.drop {J:Key→Prop} {mem'':Mem} (h0:MemRel A w B mem) (hJ:∀ k,J k→mem k=none) (h:StepOK A w B w' B' mem') (h1:∀ k,J k→mem'' k=none) (h2:∀ k,¬ J k→mem'' k=mem' k)
  (hc:∀ k g cs,mem'' k=some (g,cs)→∀ m∈cs,(∃ d,m = .dat d)∨∃ k0 g0 cs0,mem k0=some (g0,cs0)∧m∈cs0):StepOK A w B w' (mR J B') mem'':=by
 have hB:∀ k,J k→B k=none:=fun k hk=>h0.dom k (hJ k hk)
 have at_:∀ {k:Key},¬ J k→mR J B' k=B' k:=fun hk=>by unfold mR;rw[if_neg hk]
 have no_:∀ {k:Key},J k→mR J B' k=none:=fun hk=>by unfold mR;rw[if_pos hk]
 refine⟨⟨fun k hk=>?_,fun k k' e e' b he he' hb hb'=>?_,fun b ha ho=>h.mr.sep b ha (kA ho),h.mr.lt,fun k g cs hk=>?_⟩,⟨h.tr.size,fun b hb ho=>?_,fun k e he=>?_⟩,h.fr,fun b hb=>h.fresh b (kA hb)⟩
 ·by_cases hj:J k
  ·exact no_ hj
  ·rw[at_ hj];exact h.mr.dom k (by rw[←h2 k hj];exact hk)
 ·by_cases hj:J k
  ·rw[no_ hj] at he;cases he
  ·by_cases hj':J k'
   ·rw[no_ hj'] at he';cases he'
   ·rw[at_ hj] at he
    rw[at_ hj'] at he';exact h.mr.inj k k' e e' b he he' hb hb'
 ·by_cases hj:J k
  ·rw[h1 k hj] at hk;cases hk
  ·obtain⟨e,he,hg,hn,hb⟩:=h.mr.blk k g cs (by rw[←h2 k hj];exact hk)
   refine⟨e,by rw[at_ hj];exact he,hg,hn,fun b hbb=>?_⟩
   obtain⟨vs,T,hh,hz,hle,hr⟩:=hb b hbb;refine⟨vs,T,hh,hz,hle,fun i m hi=>?_⟩
   obtain⟨v,hv,hvr⟩:=hr i m hi;refine⟨v,hv,M5 hvr ?_⟩;rcases hc k g cs hk m (abr hi) with ⟨d,rfl⟩ | ⟨k0,g0,cs0,hm0,hmem⟩
   ·exact .dat
   ·obtain⟨e0,he0,hg0,hn0,hb0⟩:=h0.blk k0 g0 cs0 hm0
    cases hbk:e0.blk with
    | none=>rw[hn0 hbk] at hmem;cases hmem
    | some b0 =>
     obtain⟨vs0,T0,_,_,_,hr0⟩:=hb0 b0 hbk;obtain⟨i0,hi0⟩:=List.mem_iff_getElem?.1 hmem;obtain⟨v0,_,hvr0⟩:=hr0 i0 m hi0;exact K7 hB hvr0
 ·obtain⟨h3,h4⟩:=h.tr.old b hb ho
  exact⟨h3,fun hx=>h4 (kA hx)⟩
 ·have hj:¬ J k:=fun hj=>by rw[hB k hj] at he;cases he
  rw[at_ hj];exact h.tr.key k e he
def mkU (U:List MV→Mem→Option (Data × Key × Nat × Nat × Data)) (args:List MV) (mem:Mem):Option Eff:=(U args mem).map fun x => .upd x.1 x.2.1 x.2.2.1 x.2.2.2.1 (.dat x.2.2.2.2)
@[go_sem] theorem TI (U:List MV→Mem→Option (Data × Key × Nat × Nat × Data)) (args:List MV) (mem:Mem):mkU U args mem=(U args mem).map fun x => .upd x.1 x.2.1 x.2.2.1 x.2.2.2.1 (.dat x.2.2.2.2):=_root_.id rfl
theorem G7 {T : Tab} {kb : Nat} {own : List Nat} (hT : kf P T) (hm : P.follows .mixedOrders = true) {f : FuncId} {fn : Func} {mf : MFunc} (hf : P.funcs[f]? = some fn) (hname : (fn.name == "runtime.NumGoroutine") = false) (htr : jZ P kb own fn = some { mf with body := erase mf.body })
  (J:Key→Prop) {U:List MV→Mem→Option (Data × Key × Nat × Nat × Data)}
  (h:∀ args mem r k g i d,U args mem=some (r,k,g,i,d)→args.length≤mf.n∧(∀ j,J j→mem j=none)∧¬ J k∧(∃ cs,mem k=some (g,cs)) ∧
   wp T mf.body (rh mf.res fun m mem'=>toD 6 emp m=some r∧∀ j,¬ J j→mem' j=ay mem k g ((fO mem k).set i (.dat d)) j) ⟨ax args,mem⟩):iM P f (mkU U):=by
 refine⟨zu hf hname htr,fun args mem eff hE A w B vs hmr hv=>?_⟩
 unfold mkU at hE;rw[abs] at hE;obtain⟨⟨r,k,g,i,d⟩,hU,rfl⟩:=hE;obtain⟨hlen,hJ,hk,⟨cs,hcs⟩,hwp⟩:=h args mem r k g i d hU;refine Calls.mono (kI (Post:=fun m mem'=>toD 6 emp m=some r∧∀ j,¬ J j→mem' j=ay mem k g ((fO mem k).set i (.dat d)) j) hT hm hf htr hlen (fun e st hk=>sd hk) hwp hmr hv) fun e w' he=>?_
 obtain⟨v,m,mem',B',rfl,hs,hv',hd,hmem⟩:=he;refine⟨v,mR J B',rfl,hs.drop hmr hJ (fun j hj=>?_) (fun j hj=>(hmem j hj).symm) ?_,.dat ((rE 6 m v r hd hv').less fun b hb=>hb.imp kA id)⟩
 ·have:j≠k:=fun e=>hk (e ▸ hj)
  simp only[ay,this,if_false];exact hJ j hj
 ·intro k2 g2 cs2 h2 m hm2
  by_cases hk2:k2=k
  ·subst hk2
   simp only[ay,if_true,Option.some.injEq,Prod.mk.injEq] at h2;obtain⟨-,rfl⟩:=h2;rcases List.mem_or_eq_of_mem_set hm2 with hx | rfl
   ·refine .inr ⟨k2,g,cs,hcs,?_⟩
    simpa [fO,hcs] using hx
   ·exact .inl ⟨d,rfl⟩
  ·simp only[ay,hk2,if_false] at h2
   exact .inr ⟨k2,g2,cs2,h2,hm2⟩
def orE:Option Eff→Option Eff→Option Eff
 | some x,_=>some x
 | none,e=>e
@[go_sem] theorem Q9 (x:Eff) (e:Option Eff):orE (some x) e=some x:=_root_.id rfl
@[go_sem] theorem SP (e:Option Eff):orE none e=e:=_root_.id rfl
def Bi (PT:FuncId→Option (List Data→Option PRes)) (ET:FuncId→Option (List MV→Mem→Option Eff)):Tab:=fun f args mem=>match ET f with
 | some E=>orE (E args mem) (mkT PT f args mem)
 | none=>mkT PT f args mem
theorem au {PT:FuncId→Option (List Data→Option PRes)} {ET:FuncId→Option (List MV→Mem→Option Eff)} (h:∀ f F,PT f=some F→aM P f F) (hr:∀ f E,ET f=some E→iM P f E):kf P (Bi PT ET):=by
 intro f args mem eff hT;unfold Bi at hT
 split at hT
 ·rename_i E hE
  have hs:=hr f E hE
  cases hx:E args mem with
  | none =>
   rw[hx] at hT;exact Jv h f args mem eff hT
  | some y =>
   rw[hx] at hT
   cases hT;exact⟨hs.real,fun A w B vs hmr hv=>hs.run args mem eff hx A w B vs hmr hv⟩
 ·exact Jv h f args mem eff hT
theorem RSpec.toE {f:FuncId} {G:List MV→Mem→Option (MV × Mem)} (h:RSpec P f G):iM P f (mkG G):=by
 refine⟨h.real,fun args mem eff hE A w B vs hmr hv=>?_⟩
 unfold mkG at hE;rw[abs] at hE;obtain⟨x,hx,rfl⟩:=hE;exact h.run args mem x hx A w B vs hmr hv
section
variable {PT:FuncId→Option (List Data→Option PRes)} {ET:FuncId→Option (List MV→Mem→Option Eff)} {f:FuncId}
theorem ai {F:List Data→Option PRes} (h:ET f=none) (h':PT f=some F):Bi PT ET f=mkE F:=by
 funext args mem
 unfold Bi;rw[h];exact congrFun (congrFun (JK h') args) mem
theorem oi {E:List MV→Mem→Option Eff} (h:ET f=some E) (h':PT f=none):Bi PT ET f=E:=by
 funext args mem
 unfold Bi mkT;rw[h,h'];dsimp only
 cases E args mem<;>rfl
theorem oX {F:List Data→Option PRes} {G:List MV→Mem→Option (MV × Mem)} (h:ET f=some (mkG G)) (h':PT f=some F):Bi PT ET f=xH F G:=by
 funext args mem
 unfold Bi;rw[h];unfold xH mkG;rw[show mkT PT f args mem=mkE F args mem from congrFun (congrFun (JK h') args) mem];dsimp only
 cases G args mem<;>rfl
end
def ETl (l:List (FuncId × (List MV→Mem→Option Eff))):FuncId→Option (List MV→Mem→Option Eff):=fun f=>(l.find? fun p=>p.1==f).map (·.2)
theorem aA {l:List (FuncId × (List MV→Mem→Option Eff))} (h:∀ p∈l,iM P p.1 p.2):∀ f G,ETl l f=some G→iM P f G:=by
 intro f F hf;unfold ETl at hf;rw[abs] at hf;obtain⟨p,hp,rfl⟩:=hf;have h1:=List.mem_of_find?_eq_some hp;have h2:=List.find?_some hp;have h3:p.1=f:=by simpa using h2
 exact h3 ▸ h p h1
theorem av:∀ p∈([]:List (FuncId × (List MV→Mem→Option Eff))),iM P p.1 p.2:=by simp
theorem eQ {f:FuncId} {F:List MV→Mem→Option Eff} {l:List (FuncId × (List MV→Mem→Option Eff))} (h:iM P f F) (hl:∀ p∈l,iM P p.1 p.2):∀ p∈(f,F)::l,iM P p.1 p.2:=by
 intro p hp;rcases List.mem_cons.1 hp with rfl | hp
 ·exact h
 ·exact hl p hp
open Classical in
noncomputable def QQ {α:Type} (M:α→List MV→Mem→Prop) (R:α→Mem→MV→Mem→Prop):List MV→Mem→Option (MV→Mem→Prop):=fun args mem=>if h:∃ a,M a args mem then some (R (Classical.choose h) mem) else none
theorem RS {α:Type} {M:α→List MV→Mem→Prop} {R:α→Mem→MV→Mem→Prop} (uniq:∀ a b args mem,M a args mem→M b args mem→a=b) {a:α} {args:List MV} {mem:Mem} (h:M a args mem):QQ M R args mem=some (R a mem):=by
 have hx:∃ b,M b args mem:=⟨a,h⟩;unfold QQ;rw[dif_pos hx,uniq _ _ _ _ (abt hx) h]
theorem DA {α:Type} {M:α→List MV→Mem→Prop} {R:α→Mem→MV→Mem→Prop} {args:List MV} {mem:Mem} {x:MV→Mem→Prop} (h:QQ M R args mem=some x):∃ a,M a args mem∧x=R a mem:=by
 unfold QQ at h
 split at h
 ·rename_i hx
  exact⟨_,abt hx,(Option.some.inj h).symm⟩
 ·cases h
end Go.Mini
namespace Go.Mini
open Go
set_option maxRecDepth 10000
set_option maxHeartbeats 2000000
noncomputable def yv:List Data→Option PRes:=FF (α:=Int × (List Int) × Int × (List Int)) (fun (s,l,s2,l2)=>([.agg [.int .i64 s,.sl (l.map aa),.int .i64 s2,.sl (l2.map aa)]]:List Data)) (fun (s,l,s2,l2)=>some (.same (.bool (s==0))))
theorem Ec:∀ a b:Int × (List Int) × Int × (List Int),(fun (s,l,s2,l2)=>([.agg [.int .i64 s,.sl (l.map aa),.int .i64 s2,.sl (l2.map aa)]]:List Data)) a=(fun (s,l,s2,l2)=>([.agg [.int .i64 s,.sl (l.map aa),.int .i64 s2,.sl (l2.map aa)]]:List Data)) b→a=b:=by
  rintro⟨s1,l1,s21,l21⟩ ⟨s2,l2,s22,l22⟩ h;simp only[List.cons.injEq,Data.agg.injEq,Data.int.injEq,Data.sl.injEq] at h;exact aan h.1.1.2 (aan (af aj _ _ h.1.2.1) (aan h.1.2.2.1.2 (af aj _ _ h.1.2.2.2.1)))
@[go_sem] theorem Qu (s:Int) (l:List Int) (s2:Int) (l2:List Int):yv [.agg [.int .i64 s,.sl (l.map aa),.int .i64 s2,.sl (l2.map aa)]]=some (.same (.bool (s==0))):=aY Ec (s,l,s2,l2)
theorem w_zero (T:Tab)  (s:Int) (l:List Int) (s2:Int) (l2:List Int) :
  wp T mf_linear_zero.body (bF mf_linear_zero.res (.same (.bool (s==0)))) ⟨ax [.dat (.agg [.int .i64 s,.sl (l.map aa),.int .i64 s2,.sl (l2.map aa)])],emp⟩:=by
 refine ap ?_;simp only[mf_linear_zero];refine qI ?_
 repeat' (intro h<;>simp only[h,go_sem,go_sem_proc,aao]<;>try refine qS ?_ ?_)
def nl (args:List MV) (mem:Mem):Option (Data × Key × Nat × Nat × Data) :=
 match args with
 | [.ptr k g 0,.dat (.agg [.int .i64 s,.sl l,.int .i64 s2,.sl l2]),.dat (.int .i64 e)]=>match mem k,mem 168004,mem 168006 with
  | some (g',[_,_,.dat (.bool c)]),none,none=>if g'=g∧k≠168004∧k≠168006 then some (.agg [.int .i64 s,.sl l,.int .i64 s2,.sl l2],k,g,2,.bool (c||e != 0)) else none
  | _,_,_=>none
 | _=>none
def EU (j:Key):Prop:=j=168004∨j=168006
theorem OL (T:Tab) (args:List MV) (mem:Mem) (r:Data) (k g i:Nat) (d:Data) (h:nl args mem=some (r,k,g,i,d)) :
  args.length≤19∧(∀ j,EU j→mem j=none)∧¬ EU k∧(∃ cs,mem k=some (g,cs)) ∧
   wp T mf_linear_matrix_note.body (rh mf_linear_matrix_note.res fun m mem'=>toD 6 emp m=some r∧∀ j,¬ EU j→mem' j=ay mem k g ((fO mem k).set i (.dat d)) j) ⟨ax args,mem⟩:=by
 unfold nl at h
 split at h
 ·rename_i k0 g0 s l s2 l2 e
  split at h
  ·rename_i g1 a b c hm h4 h6
   split at h
   ·rename_i hg
    obtain⟨rfl,n4,n6⟩:=hg;simp only[Option.some.injEq,Prod.mk.injEq] at h;obtain⟨rfl,rfl,rfl,rfl,rfl⟩:=h;refine⟨by simp,?_,?_,⟨_,hm⟩,?_⟩
    ·rintro j (rfl | rfl)
     ·exact h4
     ·exact h6
    ·rintro (h | h)
     ·exact n4 h
     ·exact n6 h
    ·have hfin:∀ x:Bool,fO mem k0=[a,b,.dat (.bool c)]:=fun _=>by simp only[fO,hm]
     have n4':(k0=168004)=False:=eq_false n4;have n6':(k0=168006)=False:=eq_false n6;have n4s:(168004=k0)=False:=eq_false (Ne.symm n4);have n6s:(168006=k0)=False:=eq_false (Ne.symm n6);refine ap ?_;simp only[mf_linear_matrix_note]
     cases c
     ·simp only[go_sem,go_sem_proc,aao,hm,h4,h6,n4',n6',n4s,n6s]
      repeat' (first|refine qS ?_ ?_|fail)<;>intro h<;>simp only[h,go_sem,go_sem_proc,aao,hm,h4,h6,n4',n6',n4s,n6s]
      refine⟨_,rfl,by first | rfl | simp [go_sem,toD],fun j hj=>?_⟩
      have j4:j≠168004:=fun h=>hj (.inl h)
      have j6:j≠168006:=fun h=>hj (.inr h)
      by_cases hjk:j=k0<;>simp [ay,fO,hm,j4,j6,hjk,n4,n6,bne]
     ·simp only[go_sem,go_sem_proc,aao,hm,h4,h6,n4',n6',n4s,n6s]
      repeat' (first|refine qS ?_ ?_|fail)<;>intro h<;>simp only[h,go_sem,go_sem_proc,aao,hm,h4,h6,n4',n6',n4s,n6s]
      refine⟨_,rfl,by first | rfl | simp [go_sem,toD],fun j hj=>?_⟩
      have j4:j≠168004:=fun h=>hj (.inl h)
      have j6:j≠168006:=fun h=>hj (.inr h)
      by_cases hjk:j=k0<;>simp [ay,fO,hm,j4,j6,hjk,n4,n6,bne]
   ·cases h
  ·cases h
 ·cases h
end Go.Mini
