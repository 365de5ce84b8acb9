/- A part of the proof. -/
import Derived.Test.YtdbkjjoedjfmpaaM07
import Derived.Test.YtdbkjjoedjfmpaaM04
import Derived.Test.YtdbkjjoedjfmpaaM06
set_option linter.unusedSimpArgs false
set_option linter.unusedVariables false
open List renaming getD_eq_getElem?_getD → ZF, getElem?_eq_getElem → ZG, length_map → ZK, replicate → ZL, mem_replicate → ZN, getElem?_map → ZP, take_of_length_le → ZR, drop_set_of_lt → ZV, length_set → ZW, map_cons → Z5, map_nil → Z6, drop_zero → Z9, drop_eq_getElem_cons → aad, length_cons → aae, length_singleton → aaf, length_nil → aah, all_cons → aan, append_nil → aau, take_length → aav, length → aaw, length_append → aax, append_assoc → aaA, take_add_one → aaM, mem_of_getElem? → aaN, mem_or_eq_of_mem_set → aaP, ext_getElem? → aaR, getElem?_set → aaS, getElem?_inj → aaT, map_set → aaU, length_drop → aaV, getElem_drop → aaW
open Prod renaming ext → ZH, ext_iff → aas
open Bool renaming false_eq_true → ZJ, not_true → aai, not_false → aaj, true_and → aak, and_false → aal, false_and → aam, not_eq_true' → aao, not_eq_false' → aap, eq_iff_iff → aaq, and_eq_true → aar
open Nat renaming zero_le → ZM, lt_or_ge → ZQ, max_eq_right → ZU, mul_one → ZZ, le_refl → Z0, mul_le_mul_right → Z2, le_of_lt → Z3, mul_comm → Z4, mul_lt_mul_of_pos_left → Z7, reduceEqDiff → Z8, mod_lt → aag, gcd → aaC, lt_of_le_of_lt → aaD, gcd_comm → aaE, pos_of_ne_zero → aaK
open Decidable renaming em → ZO
open Int renaming tdiv_eq_ediv_of_nonneg → ZS, mul_zero → ZT, mul_add → ZX, mul_assoc → ZY, add_comm → aaa, natCast_zero → aab, cast_ofNat_Int → aac, sign_eq_neg_one_of_neg → aat, tmod_nonneg → aay, tdiv_nonneg → aaz, sign_eq_one_of_pos → aaB, sign_mul → aaF, natAbs_neg → aaG, natAbs_natCast → aaH, sign_sign → aaI, mul_one → aaJ
open Option renaming bind_none → Z1, map_eq_some_iff → aaO
open Rat renaming divInt → aaL
open Classical renaming choose_spec → aaQ
namespace Go.Mini
open Go
set_option maxRecDepth 10000
set_option maxHeartbeats 4000000
theorem EI {b:List Int} {k:Nat} (h:k<b.length):b.getD k 0=b[k]:=by rw[ZF,ZG h];rfl
theorem td {b:List Int} {k:Nat} (h:b.length≤k):b.getD k 0=0:=by rw[ZF,List.getElem?_eq_none h];rfl
noncomputable def pO:List Data→Option PRes:=FF (α:=Nat × Nat) (fun (x,y)=>([digs x,digs y]:List Data)) (fun (x,y)=>aG ((dg x).length≤10000∧(dg y).length≤10000) (.same (digs (x*y))))
theorem yM:∀ a b:Nat × Nat,(fun (x,y)=>([digs x,digs y]:List Data)) a=(fun (x,y)=>([digs x,digs y]:List Data)) b→a=b:=by
  rintro⟨x1,y1⟩ ⟨x2,y2⟩ h;simp only[List.cons.injEq,digs,Data.sl.injEq] at h;exact ZH (eR (af ai _ _ h.1)) (eR (af ai _ _ h.2.1))
@[go_sem] theorem sh (x:Nat) (y:Nat) (hc:(dg x).length≤10000∧(dg y).length≤10000):pO [digs x,digs y]=some (.same (digs (x*y))):=(aV yM (x,y)).trans (an hc _)
theorem HO (T:Tab) (aW:T bZ=mkE l7) (be:T cq=mkE lv) (x:Nat) (y:Nat) (hc:(dg x).length≤10000∧(dg y).length≤10000) :
  wp T mf_ref04_times.body (bG mf_ref04_times.res (.same (digs (x*y)))) ⟨ax [.dat (digs x),.dat (digs y)],emp⟩:=by
 refine ap ?_;simp only[mf_ref04_times];obtain⟨hx,hy⟩:=hc;have hdx:=eB x;have hdy:=eB y;have hvx:=f7 x;have hvy:=f7 y;generalize ha:dg x=a at *;generalize hb:dg y=b at *;have hw1:IntKind.i64.wrap ((a.length:Int)+(b.length:Int))=((a.length+b.length:Nat):Int):=by rw[aj _ (by omega) (by omega)];rfl
 have hb1:8*(a.length+b.length)≤140737488355328:=by omega
 have hb2:a.length+b.length≤maxLen:=jh _ (by omega);have hbl:b.length≤1000000:=by omega
 simp only[go_sem,go_sem_proc,ZJ,aW,be,digs,ha,hb,hw1,hb1,hb2,mb,ZK]
 refine ae [0,1,5] [] (fun ((i,o):Nat × List Int) tm mem=>i≤a.length∧o.length=a.length+b.length∧isD o∧o.drop (i+b.length)=ZL (o.length-(i+b.length)) 0∧vl o=vl (a.take i)*y∧tm 6 = .dat (.int .i64 (i:Nat))∧mem 186015=some (0,ay aa o))
  (fun (i,_)=>a.length-i) (0,ZL (a.length+b.length) 0) (by
   have hz:∀ n,vl (ZL n 0)=0:=by
    intro n
    induction n with
    | zero=>rfl
    | succ n ih=>rw[List.replicate_succ,gN,ih];rfl
   refine⟨ZM _,by simp,fun d hd=>by rw[ZN] at hd;omega,by simp,by rw[hz];simp [vl],?_,?_⟩<;>rfl) ?_
 intro vs ms hvs hms;simp only[go_sem,go_sem_proc,ZJ,aW,be,digs,ha,hb,hw1,ZK] at hvs hms;subst hvs hms;rintro⟨i,o⟩ tm mem hk-⟨hi,ho,hdo,hzr,hvi,h6,hm⟩;simp only[go_sem,go_sem_proc,ZJ,aW,be,List.cons.injEq] at hk;obtain⟨h0,h1,h5⟩:=hk;rcases ZO (i<a.length) with hlt | hge
 ·have hga:a[i]?=some a[i]:=ZG hlt
  have hai:=dO hdx i hlt;have hts:=ba a i hlt;generalize a[i]=xi at *;have hdec:decide ((i:Int)<(a.length:Int))=true:=decide_eq_true (by omega);have hwi:IntKind.i64.wrap ((i:Int)+1)=((i+1:Nat):Int):=by rw[aj _ (by omega) (by omega)];rfl
  simp only[go_sem,go_sem_proc,ZJ,aW,be,h0,h1,h5,h6,hga,hdec,aa,ZK,ZP,List.cons.injEq]
  refine ae [0,1,5,6] [] (fun ((k,c,o):Nat × Int × List Int) tm mem=>k≤b.length+1∧(k=b.length+1→c=0)∧o.length=a.length+b.length∧isD o∧o.drop (i+max k b.length)=ZL (o.length-(i+max k b.length)) 0∧0≤c∧c<1048576∧vl o+1048576^(i+k)*c=vl (a.take i)*y+1048576^i*(xi*vl (b.take k)) ∧
    tm 8 = .dat (.int .i64 (k:Nat))∧tm 7 = .dat (.int .i64 c)∧mem 186015=some (0,ay aa o))
   (fun (k,_)=>b.length+1-k) (0,0,o) (by refine⟨ZM _,by simp,ho,hdo,by rw[Nat.zero_max];exact hzr,by omega,by omega,by simp [vl,hvi],?_,?_,hm⟩<;>rfl) ?_
  intro vs ms hvs hms;simp only[go_sem,go_sem_proc,ZJ,aW,be,h0,h1,h5,h6,aa,ZK] at hvs hms;subst hvs hms;rintro⟨k,c,o⟩ tm mem hk-⟨hki,hkc,ho,hdo,hzr,hc0,hc1,hvi,h8,h7,hm⟩;simp only[go_sem,go_sem_proc,ZJ,aW,be,List.cons.injEq] at hk;obtain⟨h0,h1,h5,h6⟩:=hk;have hw2:IntKind.i64.wrap ((k:Int)+1)=((k+1:Nat):Int):=by rw[aj _ (by omega) (by omega)];rfl
  have hw3:IntKind.i64.wrap ((i:Int)+(k:Int))=((i+k:Nat):Int):=by rw[aj _ (by omega) (by omega)];rfl
  by_cases hgo:k<b.length∨c>0
  ·have hkb:k≤b.length:=by
    rcases ZQ b.length k with h | h
    ·have:=hkc (by omega);omega
    ·exact h
   have hjo:i+k<o.length:=by omega
   have hoj:=dO hdo (i+k) hjo
   have hbk:0≤b.getD k 0∧b.getD k 0<1048576:=by
    rcases ZQ k b.length with h | h
    ·rw[EI h];exact dO hdy k h
    ·rw[td h];omega
   have hbt:vl (b.take (k+1))=vl (b.take k)+1048576^k*b.getD k 0:=by
    rcases ZQ k b.length with h | h
    ·rw[EI h];exact ba b k h
    ·rw[td h,ZR (by omega),ZR (by omega)];simp
   have hmax:k<b.length∨(k=b.length∧o[i+k]=0):=by
    rcases ZQ k b.length with h | h
    ·exact .inl h
    ·refine .inr ⟨by omega,zj hzr (by omega) hjo⟩
   have hdg:=sj b k hbl;generalize b.getD k 0=bk at *;obtain⟨m1,m2,m3,m4⟩:=xb hoj hai hbk ⟨hc0,hc1⟩;have hw4:IntKind.i64.wrap (xi*bk)=xi*bk:=aj _ (by omega) (by omega);have hw5:IntKind.i64.wrap (o[i+k]+xi*bk)=o[i+k]+xi*bk:=aj _ (by omega) (by omega);have hw6:IntKind.i64.wrap (o[i+k]+xi*bk+c)=o[i+k]+xi*bk+c:=aj _ (by omega) (by omega);have hq1:(o[i+k]+xi*bk+c).tmod 1048576=(o[i+k]+xi*bk+c) % 1048576:=Int.tmod_eq_emod_of_nonneg (by omega);have hq2:IntKind.i64.wrap ((o[i+k]+xi*bk+c).tdiv 1048576)=(o[i+k]+xi*bk+c) / 1048576:=by rw[ZS (by omega)];exact aj _ (by omega) (by omega)
   have hio':i+k+1≤(ay aa o).length:=by rw[eW];omega
   have hget:=qJ o (i+k) hjo;have hfold:=fun d=>ia o (i+k) d hjo
   have hjl:i+k<a.length+b.length:=by omega
   have hfin:∃ i':Nat × Int × List Int,b.length+1-i'.1<b.length+1-k∧i'.1≤b.length+1∧(i'.1=b.length+1→i'.2.1=0)∧i'.2.2.length=a.length+b.length∧isD i'.2.2∧i'.2.2.drop (i+max i'.1 b.length)=ZL (i'.2.2.length-(i+max i'.1 b.length)) 0∧0≤i'.2.1∧i'.2.1<1048576∧vl i'.2.2+1048576^(i+i'.1)*i'.2.1=vl (a.take i)*y+1048576^i*(xi*vl (b.take i'.1)) ∧
     MV.dat (Data.int .i64 ((k+1:Nat):Int))=MV.dat (Data.int .i64 (i'.1:Nat))∧MV.dat (Data.int .i64 ((o[i+k]+xi*bk+c) / 1048576))=MV.dat (Data.int .i64 i'.2.1)∧some (0,ay aa (o.set (i+k) ((o[i+k]+xi*bk+c) % 1048576)))=some (0,ay aa i'.2.2):=by
    refine⟨(k+1,(o[i+k]+xi*bk+c) / 1048576,o.set (i+k) ((o[i+k]+xi*bk+c) % 1048576)),by dsimp only;omega,by dsimp only;omega,?_,by simp [ho],kn hdo _ (by omega),?_,m3,m4,?_,rfl,rfl,rfl⟩
    ·intro h
     dsimp only at h ⊢;rcases hmax with h2 | ⟨h2,h3⟩
     ·omega
     ·have hbk0:bk=0:=by
       have e:=hdg;rw[sj b k hbl,td (by omega)] at e
       simpa using e.symm
      rw[h3,hbk0,ZT];omega
    ·dsimp only
     rcases hmax with h2 | ⟨h2,h3⟩
     ·rw[ZU (by omega)] at hzr
      rw[ZU (by omega),ZV (by omega),ZW,hzr]
     ·rw[ZU (by omega),←h2] at hzr
      rw[Nat.max_eq_left (by omega)];exact uL hzr hjo
    ·dsimp only
     rw[Ca _ _ _ hjo,hbt,←Nat.add_assoc,Int.pow_succ,zH _ _ _ _ _ _ _ hvi];rw[ZX (xi),ZX (1048576^i),Int.pow_add]
     have:(1048576:Int)^i*(xi*(1048576^k*bk))=1048576^i*1048576^k*(xi*bk):=by
      rw[←ZY (xi),Int.mul_comm (xi) (1048576^k),ZY (1048576^k),←ZY]
     omega
   by_cases hkb':k<b.length
   ·have d1:decide ((k:Int)<(b.length:Int))=true:=decide_eq_true (by omega)
    simp only[go_sem,go_sem_proc,ZJ,aW,be,h0,h1,h5,h6,h7,h8,hm,hga,hdg,d1,hw2,hw3,hw4,hw5,hw6,hq1,hq2,hjl,hio',hget,hfold,aa,ZZ,ZK,ZP,List.cons.injEq]
    repeat' (first|refine qS ?_ ?_|fail)<;>intro h<;>simp only[h,go_sem,go_sem_proc,ZJ,aW,be,h0,h1,h5,h6,h7,h8,hm,hga,hdg,d1,hw2,hw3,hw4,hw5,hw6,hq1,hq2,hjl,hio',hget,hfold,aa,ZZ,ZK,ZP,List.cons.injEq]
    exact hfin
   ·have d1:decide ((k:Int)<(b.length:Int))=false:=decide_eq_false (by omega)
    have d2:decide (c>0)=true:=decide_eq_true (by omega);simp only[go_sem,go_sem_proc,ZJ,aW,be,h0,h1,h5,h6,h7,h8,hm,hga,hdg,d1,d2,hw2,hw3,hw4,hw5,hw6,hq1,hq2,hjl,hio',hget,hfold,aa,ZZ,ZK,ZP,List.cons.injEq]
    repeat' (first|refine qS ?_ ?_|fail)<;>intro h<;>simp only[h,go_sem,go_sem_proc,ZJ,aW,be,h0,h1,h5,h6,h7,h8,hm,hga,hdg,d1,d2,hw2,hw3,hw4,hw5,hw6,hq1,hq2,hjl,hio',hget,hfold,aa,ZZ,ZK,ZP,List.cons.injEq]
    exact hfin
  ·have d1:decide ((k:Int)<(b.length:Int))=false:=decide_eq_false (by omega)
   have d2:decide (c>0)=false:=decide_eq_false (by omega);have hc00:c=0:=by omega
   rw[hc00,ZT,Int.add_zero,show b.take k=b from ZR (by omega),hvy] at hvi;simp only[go_sem,go_sem_proc,ZJ,aW,be,h0,h1,h5,h6,h7,h8,hm,d1,d2,hwi,ZK]
   repeat' (first|refine qS ?_ ?_|fail)<;>intro h<;>simp only[h,go_sem,go_sem_proc,ZJ,aW,be,h0,h1,h5,h6,h7,h8,hm,d1,d2,hwi,ZK]
   refine⟨(i+1,o),by dsimp only;omega,by dsimp only;omega,ho,hdo,?_,?_,rfl,rfl⟩
   ·dsimp only
    have h3:=congrArg (List.drop (i+1+b.length-(i+max k b.length))) hzr;rw[List.drop_drop,List.drop_replicate] at h3;rw[show i+max k b.length+(i+1+b.length-(i+max k b.length))=i+1+b.length by omega] at h3
    rw[h3]
    congr 1
    omega
   ·dsimp only
    rw[hvi,hts,Int.add_mul,ZY]
 ·obtain rfl:i=a.length:=by omega
  have hdec:decide ((a.length:Int)<(a.length:Int))=false:=decide_eq_false (by omega);rw[ZR (Z0 _),hvx] at hvi;have hT:=ir o (by omega);rw[mo (n:=x*y) hdo (by rw[hvi];rfl)] at hT;have hL:=kz (dg (x*y));have hD:=eG (n:=5) bc hm;rw[ho] at hD;simp only[go_sem,go_sem_proc,ZJ,aW,be,h0,h1,h5,h6,hm,hdec,hT,hL,hD,dI,Z1,digs,ZK]
  repeat' (first|refine qS ?_ ?_|fail)<;>intro h<;>simp only[h,go_sem,go_sem_proc,ZJ,aW,be,h0,h1,h5,h6,hm,hdec,hT,hL,hD,dI,Z1,digs,ZK]
def MCode.sub2:MCode→List Nat→MCode
 | .seq a _,0::p=>a.sub2 p
 | .seq _ b,_::p=>b.sub2 p
 | .cond _ a _,0::p=>a.sub2 p
 | .cond _ _ b,_::p=>b.sub2 p
 | .block _ c,_::p=>c.sub2 p
 | .ghost _ c,_::p=>c.sub2 p
 | .loop c,_::p=>c.sub2 p
 | c,_=>c
theorem Bt {n:Nat} (h:0<n) (h1:n<1048576):[(n:Int)]=dg n:=(pA h h1).symm
theorem HC {n:Nat} (h1:n<1048576):cm [(n:Int)]=dg n:=mo (by intro d hd;have:=List.mem_singleton.1 hd;omega) (by simp [vl])
theorem GM {d:Int} {r:Nat} (h0:0≤d) (h1:d<1048576):cm (d::dg r)=dg (d.toNat+1048576*r):=mo (isD_cons.2 ⟨⟨h0,h1⟩,eB r⟩) (by rw[gN,f7];omega)
theorem o7 {n m k:Nat} (h:n<m*1048576) (hm:(dg m).length≤k):(dg n).length≤k+1:=by
 rw[dg_len] at *;rw[Nat.pow_succ];exact Nat.lt_of_lt_of_le h (Z2 _ (Z3 hm))
theorem EC (T:Tab) (dw:T gj=mkE pO) (et:T jA=mkE sP) {K:bH→St→Prop} {kk:List Todo} (y R:Nat) (hy:(dg y).length≤1000) (hR:(dg R).length≤1001) (hy0:0<y) (hRy:R<y*1048576) (v0 v6 v8:MV) (tm:Nat→MV) (m:Mem)
  (e0:tm 0=v0) (e1:tm 1 = .dat (.sl ((dg y).map aa))) (e6:tm 6=v6) (e7:tm 7 = .dat (.sl ((dg R).map aa))) (e8:tm 8=v8) (e9:tm 9 = .dat (.int .i64 0)) (e10:tm 10 = .dat (.int .i64 1048576))
  (hK:∀ tm',tm' 0=v0→tm' 1 = .dat (.sl ((dg y).map aa))→tm' 6=v6→tm' 7 = .dat (.sl ((dg R).map aa))→tm' 8=v8→tm' 9 = .dat (.int .i64 ((R / y:Nat):Int))→kont T K kk (.exit 2) ⟨tm',m⟩) :
  wp T (mf_ref04_over.body.sub2 [1,1,1,0,1,0,0,1,0,0,1,1,1,0,0]) (kont T K kk) ⟨tm,m⟩:=by
 simp only[mf_ref04_over,MCode.sub2];refine ae [0,1,6,7,8] [] (fun ((lo,hi):Nat × Nat) tm' m'=>lo<hi∧hi≤1048576∧lo*y≤R∧R<hi*y∧tm' 9 = .dat (.int .i64 lo)∧tm' 10 = .dat (.int .i64 hi)∧m'=m) (fun (lo,hi)=>hi-lo) (0,1048576) (by refine⟨by omega,by omega,by omega,by rw[Z4];exact hRy,e9,e10,rfl⟩) ?_;intro vs ms hvs hms;simp only[go_sem,go_sem_proc,ZJ,e0,e1,e6,e7,e8] at hvs hms;subst hvs hms;clear e0 e1 e6 e7 e8 e9 e10;rintro⟨lo,hi⟩ tm m' hk hm ⟨hlh,hh,hlo,hhi,h9,h10,rfl⟩;simp only[go_sem,go_sem_proc,ZJ,List.cons.injEq] at hk hm;obtain⟨h0,h1,h6,h7,h8⟩:=hk;have w1:IntKind.i64.wrap ((hi:Int)-(lo:Int))=(hi:Int)-(lo:Int):=aj _ (by omega) (by omega)
 by_cases hgo:hi-lo>1
 ·have d1:decide ((hi:Int)-(lo:Int)>1)=true:=decide_eq_true (by omega)
  have w2:IntKind.i64.wrap ((lo:Int)+(hi:Int))=((lo+hi:Nat):Int):=by rw[aj _ (by omega) (by omega)];omega
  have w3:IntKind.i64.wrap (((lo+hi:Nat):Int).tdiv 2)=(((lo+hi) / 2:Nat):Int):=by rw[ZS (by omega),aj _ (by omega) (by omega)];omega
  obtain⟨mid,hmid⟩:∃ mid:Nat,mid=(lo+hi) / 2:=⟨_,rfl⟩;rw[←hmid] at w3;have hT:=sh y mid ⟨by omega,by rw[←Bt (n:=mid) (by omega) (by omega)];simp⟩
  simp only[digs] at hT;rw[←Bt (n:=mid) (by omega) (by omega)] at hT;simp only[Z5,Z6,aa] at hT;have hml:(dg (y*mid)).length≤1001:=o7 (Z7 (show mid<1048576 by omega) hy0) hy;have hL:=Cg R (y*mid) ⟨by omega,by omega⟩
  simp only[digs] at hL;rcases hd:decide (R<y*mid)
  ·have hn:=of_decide_eq_false hd
   rw[hd] at hL;refine qI ?_
   repeat' (intro h<;>simp only[h,go_sem,go_sem_proc,ZJ,dw,et,h0,h1,h6,h7,h8,h9,h10,w1,w2,w3,d1,hT,hL]<;>try refine qS ?_ ?_)
   exact⟨(mid,hi),by dsimp only;omega,by dsimp only;omega,hh,by dsimp only;rw[Z4];omega,hhi,rfl,rfl⟩
  ·have hn:=of_decide_eq_true hd
   rw[hd] at hL;refine qI ?_
   repeat' (intro h<;>simp only[h,go_sem,go_sem_proc,ZJ,dw,et,h0,h1,h6,h7,h8,h9,h10,w1,w2,w3,d1,hT,hL]<;>try refine qS ?_ ?_)
   exact⟨(lo,mid),by dsimp only;omega,by dsimp only;omega,by dsimp only;omega,hlo,by dsimp only;rw[Z4];omega,rfl,rfl⟩
 ·have d1:decide ((hi:Int)-(lo:Int)>1)=false:=decide_eq_false (by omega)
  have hq:R / y=lo:=by
   have h1:hi=lo+1:=by omega
   subst h1;exact Nat.div_eq_of_lt_le hlo hhi
  refine qI ?_
  repeat' (intro h<;>simp only[h,go_sem,go_sem_proc,ZJ,h0,h1,h6,h7,h8,h9,h10,w1,d1]<;>try refine qS ?_ ?_)
  refine hK _ ?_ ?_ ?_ ?_ ?_ ?_<;>simp only[aH,Z8,if_false,h0,h1,h6,h7,h8,h9,hq]
noncomputable def sE:List Data→Option PRes:=FF (α:=Nat × Nat) (fun (x,y)=>([digs x,digs y]:List Data)) (fun (x,y)=>aG ((dg x).length≤1000∧(dg y).length≤1000∧0<y) (.same (.tup [digs (x / y),digs (x % y)])))
theorem Ar:∀ a b:Nat × Nat,(fun (x,y)=>([digs x,digs y]:List Data)) a=(fun (x,y)=>([digs x,digs y]:List Data)) b→a=b:=by
  rintro⟨x1,y1⟩ ⟨x2,y2⟩ h;simp only[List.cons.injEq,digs,Data.sl.injEq] at h;exact ZH (eR (af ai _ _ h.1)) (eR (af ai _ _ h.2.1))
@[go_sem] theorem ur (x:Nat) (y:Nat) (hc:(dg x).length≤1000∧(dg y).length≤1000∧0<y):sE [digs x,digs y]=some (.same (.tup [digs (x / y),digs (x % y)])):=(aV Ar (x,y)).trans (an hc _)
theorem L8 (T:Tab) (be:T cq=mkE lv) (dw:T gj=mkE pO) (et:T jA=mkE sP) (cg:T gk=mkE q0) (x:Nat) (y:Nat) (hc:(dg x).length≤1000∧(dg y).length≤1000∧0<y) :
  wp T mf_ref04_over.body (bG mf_ref04_over.res (.same (.tup [digs (x / y),digs (x % y)]))) ⟨ax [.dat (digs x),.dat (digs y)],emp⟩:=by
 refine ap ?_;simp only[mf_ref04_over];obtain⟨hx,hy,hy0⟩:=hc;have hdx:=eB x;have hvx:=f7 x;generalize ha:dg x=a at *;have hb1:8*a.length≤140737488355328:=by omega
 have hb2:a.length≤maxLen:=jh _ (by omega);have hw0:IntKind.i64.wrap ((a.length:Int)-1)=(a.length:Int)-1:=aj _ (by omega) (by omega);simp only[go_sem,go_sem_proc,ZJ,be,dw,et,cg,digs,ha,hb1,hb2,mb,hw0,ZK]
 refine ae [0,1,6] [] (fun ((n,r,rv,o):Nat × Nat × MV × List Int) tm mem=>n≤a.length∧o.length=a.length∧isD o∧r<y∧vl (a.drop n)=y*vl (o.drop n)+r∧(rv = .nil∧r=0∨rv = .dat (digs r))∧tm 8 = .dat (.int .i64 ((n:Nat)-1))∧tm 7=rv∧mem 180014=some (0,ay aa o))
  (fun (n,_)=>n) (a.length,0,.nil,ZL a.length 0) (by
   refine⟨Z0 _,by simp,fun d hd=>by rw[ZN] at hd;omega,hy0,by simp [vl],.inl ⟨rfl,rfl⟩,rfl,rfl,rfl⟩) ?_
 intro vs ms hvs hms;simp only[go_sem,go_sem_proc,ZJ,be,dw,et,cg,digs,ha,ZK] at hvs hms;subst hvs hms;rintro⟨n,r,rv,o⟩ tm mem hk-⟨hn,ho,hdo,hr1,hv,hrv,h8,h7,hm⟩;simp only[go_sem,go_sem_proc,ZJ,be,dw,et,cg,List.cons.injEq] at hk;obtain⟨h0,h1,h6⟩:=hk;rcases n with _ | n
 ·have hq:vl o=((x / y:Nat):Int)∧r=x % y:=by
   rw[Z9,Z9,hvx] at hv;have e1:(x:Int) / (y:Int)=vl o:=by rw[hv,aaa,Int.add_mul_ediv_left _ _ (by omega),Int.ediv_eq_zero_of_lt (by omega) (by omega)];omega
   have e2:(x:Int) % (y:Int)=r:=by rw[hv,aaa,Int.add_mul_emod_self_left,Int.emod_eq_of_lt (by omega) (by omega)]
   refine⟨by rw[←e1];rfl,by omega⟩
  have hT:=ir o (by omega);rw[mo (n:=x / y) hdo hq.1] at hT;have hL:=kz (dg (x / y));have hD:=eG (n:=5) bc hm;rw[ho] at hD;rcases hrv with ⟨rfl,hr0⟩ | rfl
  ·have hz:dg (x % y)=[]:=by rw[←hq.2,hr0];rfl
   simp only[go_sem,go_sem_proc,ZJ,be,dw,et,cg,h0,h1,h6,h7,h8,hm,hT,hL,hD,hz,dI,Z1,digs,aab,aac,show ¬ ((0:Int)-1≥0) by omega,decide_false,ZK,Z6]
   repeat' (first|refine qS ?_ ?_|fail)<;>intro h<;>simp only[h,go_sem,go_sem_proc,ZJ,be,dw,et,cg,h0,h1,h6,h7,h8,hm,hT,hL,hD,hz,dI,Z1,digs,aab,aac,show ¬ ((0:Int)-1≥0) by omega,decide_false,ZK,Z6]
  ·simp only[go_sem,go_sem_proc,ZJ,be,dw,et,cg,h0,h1,h6,h7,h8,hm,hT,hL,hD,dI,Z1,digs,aab,aac,show ¬ ((0:Int)-1≥0) by omega,decide_false,ZK,Z6,hq.2]
   repeat' (first|refine qS ?_ ?_|fail)<;>intro h<;>simp only[h,go_sem,go_sem_proc,ZJ,be,dw,et,cg,h0,h1,h6,h7,h8,hm,hT,hL,hD,dI,Z1,digs,aab,aac,show ¬ ((0:Int)-1≥0) by omega,decide_false,ZK,Z6,hq.2]
 ·have hga:a[n]?=some a[n]:=ZG (by omega)
  have han:=dO hdx n (by omega);have hda:a.drop n=a[n]::a.drop (n+1):=aad (by omega);have hno:n<o.length:=by omega
  have hdo':∀ e:Int,(o.set n e).drop n=e::o.drop (n+1):=fun e=>by
   rw[aad (by simpa using hno),List.getElem_set_self,ZV (by omega)]
  generalize a[n]=d at *;have hw:((n+1:Nat):Int)-1=(n:Int):=by omega
  have hge:decide ((n:Int)≥0)=true:=decide_eq_true (by omega);have hw4:IntKind.i64.wrap ((n:Int)-1)=(n:Int)-1:=aj _ (by omega) (by omega);have hrl:(dg r).length≤1000:=by rw[dg_len] at *;omega
  obtain⟨R,hR⟩:∃ R:Nat,R=d.toNat+1048576*r:=⟨_,rfl⟩
  have hRlt:R<y*1048576:=by
   have:(r+1)*1048576≤y*1048576:=Z2 _ hr1;omega
  have hRl:=o7 hRlt hy;have hct:=GM (d:=d) (r:=r) han.1 han.2;rw[←hR] at hct;have hT:=ir (d::dg r) (by rw[aae];omega);rw[hct] at hT;simp only[Z5,aa] at hT;have hL:=kz (dg R)
  have happ:∀ G:Nat,lg 180026 G 1 1 8 (dg r).length (((dg r).map aa).flatten.map .dat) (some (G,[.dat (.int .i64 d)]))=some (.ref 180026 (G+1) 1 0 (1+(dg r).length),some (180026,G+1,ay aa (d::dg r))):=fun G=>by
   have:=me bc fO 180026 G 8 [d] (dg r) (by rw[aaf];omega) (by rw[aaf];omega);exact this
  have hDr:∀ (G:Nat) (m:Mem),m 180026=some (G,ay aa (d::dg r))→toD 6 m (.ref 180026 G 1 0 (1+(dg r).length))=some (.sl ((d::dg r).map aa)):=fun G m hm=>by
   have:=eG (n:=5) bc hm;rw[aae,Nat.add_comm (dg r).length 1] at this;exact this
  have hev:(((dg r).map aa).all fun e=>e.length==1)=true:=qR _;have hDr':=hDr (cL (mem 180026)+1) (aA (aA mem 180026 (cL (mem 180026)) [MV.dat (.int .i64 d)]) 180026 (cL (mem 180026)+1) (ay aa (d::dg r))) (by simp [aA]);have hnl:n<a.length:=by omega
  obtain⟨lo,hlo⟩:∃ lo:Nat,lo=R / y:=⟨_,rfl⟩;have hlob:lo<1048576:=by rw[hlo];exact Nat.div_lt_of_lt_mul hRlt
  have hdm:=Nat.div_add_mod R y;have hml:=aag R hy0;rw[←hlo] at hdm;have hmod:R-y*lo=R % y:=by omega
  have hmll:(dg (y*lo)).length≤1001:=o7 (Z7 hlob hy0) hy
  have hT2:lv [.sl [[.int .i64 ((R / y:Nat):Int)]]]=some (.own 1 ((dg lo).map aa)):=by
   have h:=ir [((R / y:Nat):Int)] (by simp);rw[←hlo,HC hlob] at h;rw[←hlo];exact h
  have hT3:=sh y lo ⟨by omega,by have:(dg lo).length≤1:=dg_len.2 (by rw[Nat.pow_one];exact hlob);omega⟩
  simp only[digs] at hT3;have hT4:=sc R (y*lo) ⟨by omega,by omega,by omega⟩
  rw[hmod] at hT4;simp only[digs] at hT4;have hio':n+1≤(ay aa o).length:=by rw[eW];omega
  have hfold:=ia o n ((R / y:Nat):Int) hno
  have hfin:∃ i':Nat × Nat × MV × List Int,i'.1<n+1∧i'.1≤a.length∧i'.2.2.2.length=a.length∧isD i'.2.2.2∧i'.2.1<y∧vl (a.drop i'.1)=y*vl (i'.2.2.2.drop i'.1)+i'.2.1∧(i'.2.2.1 = .nil∧i'.2.1=0∨i'.2.2.1 = .dat (.sl ((dg i'.2.1).map aa)))∧MV.dat (Data.int .i64 ((n:Int)-1))=MV.dat (Data.int .i64 ((i'.1:Int)-1))∧MV.dat (Data.sl ((dg (R % y)).map aa))=i'.2.2.1∧some (0,ay aa (o.set n ((R / y:Nat):Int)))=some (0,ay aa i'.2.2.2):=by
   refine⟨(n,R % y,.dat (digs (R % y)),o.set n ((R / y:Nat):Int)),by dsimp only;omega,by dsimp only;omega,by simp [ho],kn hdo n (by omega),hml,?_,.inr rfl,rfl,rfl,rfl⟩
   dsimp only;rw[hda,gN,hv,hdo',gN,←hlo];have e1:(R:Int)=d+1048576*r:=by omega
   have e2:(y:Int)*lo+(R % y:Nat)=R:=by exact_mod_cast hdm
   have e3:∀ v:Int,(y:Int)*(lo+1048576*v)=y*lo+1048576*(y*v):=fun v=>by rw[ZX,Int.mul_left_comm]
   rw[e3];omega
  have main:rv = .nil∧r=0∨rv = .dat (digs r):=hrv;rcases main with ⟨rfl,hr0⟩ | rfl
  ·subst hr0
   have happ0:=happ;simp only[f8,Z6,List.flatten_nil,aah] at happ0;simp only[f8,aah] at hDr';simp only[f8,Z6] at hT;simp only[go_sem,go_sem_proc,ZJ,be,dw,et,cg,h0,h1,h6,h7,h8,hm,hga,hw,hge,happ0,hT,hL,hDr',dI,Z1,aa,f8,ZK,ZP,Z6];refine EC T dw et y R hy hRl hy0 hRlt (.dat (.sl (a.map aa))) (.ref 180014 0 1 0 a.length) (.dat (.int .i64 n)) _ _ ?_ ?_ ?_ ?_ ?_ ?_ ?_ ?_
   ·exact h0
   ·exact h1
   ·exact h6
   ·rfl
   ·simp only[aH,Z8,if_false,h8,hw]
   ·rfl
   ·rfl
   intro tm' k0 k1 k6 k7 k8 k9;simp only[go_sem,go_sem_proc,ZJ,be,dw,et,cg,k0,k1,k6,k7,k8,k9,hm,hnl,hio',hfold,hT2,hT3,hT4,hw4,ZZ]
   repeat' (first|refine qS ?_ ?_|fail)<;>intro h<;>simp only[h,go_sem,go_sem_proc,ZJ,be,dw,et,cg,k0,k1,k6,k7,k8,k9,hm,hnl,hio',hfold,hT2,hT3,hT4,hw4,ZZ]
   exact hfin
  ·simp only[go_sem,go_sem_proc,ZJ,be,dw,et,cg,h0,h1,h6,h7,h8,hm,hga,hw,hge,happ,hev,hT,hL,hDr',dI,Z1,digs,aa,ZK,ZP]
   refine EC T dw et y R hy hRl hy0 hRlt (.dat (.sl (a.map aa))) (.ref 180014 0 1 0 a.length) (.dat (.int .i64 n)) _ _ ?_ ?_ ?_ ?_ ?_ ?_ ?_ ?_
   ·exact h0
   ·exact h1
   ·exact h6
   ·rfl
   ·simp only[aH,Z8,if_false,h8,hw]
   ·rfl
   ·rfl
   intro tm' k0 k1 k6 k7 k8 k9;simp only[go_sem,go_sem_proc,ZJ,be,dw,et,cg,k0,k1,k6,k7,k8,k9,hm,hnl,hio',hfold,hT2,hT3,hT4,hw4,ZZ]
   repeat' (first|refine qS ?_ ?_|fail)<;>intro h<;>simp only[h,go_sem,go_sem_proc,ZJ,be,dw,et,cg,k0,k1,k6,k7,k8,k9,hm,hnl,hio',hfold,hT2,hT3,hT4,hw4,ZZ]
   exact hfin
noncomputable def oH:List Data→Option PRes:=FF (α:=Int × (List Int)) (fun (s,l)=>([.int .i64 s,.sl (l.map aa)]:List Data)) (fun (s,l)=>aG (l.length≤1000000) (.same (.agg (bF (eU s l)))))
theorem AG:∀ a b:Int × (List Int),(fun (s,l)=>([.int .i64 s,.sl (l.map aa)]:List Data)) a=(fun (s,l)=>([.int .i64 s,.sl (l.map aa)]:List Data)) b→a=b:=by
  rintro⟨s1,l1⟩ ⟨s2,l2⟩ h;simp only[List.cons.injEq,Data.int.injEq,Data.sl.injEq] at h;exact ZH h.1.2 (af ai _ _ h.2.1)
@[go_sem] theorem NO (s:Int) (l:List Int) (hc:l.length≤1000000):oH [.int .i64 s,.sl (l.map aa)]=some (.same (.agg (bF (eU s l)))):=(aV AG (s,l)).trans (an hc _)
theorem Le (T:Tab) (be:T cq=mkE lv) (s:Int) (l:List Int) (hc:l.length≤1000000) :
  wp T mf_ref04_made.body (bG mf_ref04_made.res (.same (.agg (bF (eU s l))))) ⟨ax [.dat (.int .i64 s),.dat (.sl (l.map aa))],emp⟩:=by
 refine ap ?_;simp only[mf_ref04_made];have hT:=ir l hc;have hL:=kz (cm l);refine qI ?_
 repeat' (intro h<;>simp only[h,go_sem,go_sem_proc,ZJ,be,hT,hL,ZK]<;>try refine qS ?_ ?_)
 all_goals simp only[eU,bF,Z6, *,reduceIte,aai,aaj,Bool.or_true,Bool.true_or,Bool.or_false,Bool.false_or,Bool.and_true,aak,aal,aam,ZJ,beq_self_eq_true,bne]
noncomputable def mw:List Data→Option PRes:=FF (α:=Int × (List Int)) (fun (s,l)=>([.agg [.int .i64 s,.sl (l.map aa)]]:List Data)) (fun (s,l)=>aG (l.length≤1000000) (.same (.bool (aI (s,l)))))
theorem yB:∀ a b:Int × (List Int),(fun (s,l)=>([.agg [.int .i64 s,.sl (l.map aa)]]:List Data)) a=(fun (s,l)=>([.agg [.int .i64 s,.sl (l.map aa)]]:List Data)) b→a=b:=by
  rintro⟨s1,l1⟩ ⟨s2,l2⟩ h;simp only[List.cons.injEq,Data.agg.injEq,Data.int.injEq,Data.sl.injEq] at h;exact ZH h.1.1.2 (af ai _ _ h.1.2.1)
@[go_sem] theorem Nm (s:Int) (l:List Int) (hc:l.length≤1000000):mw [.agg [.int .i64 s,.sl (l.map aa)]]=some (.same (.bool (aI (s,l)))):=(aV yB (s,l)).trans (an hc _)
theorem Ke (T:Tab)  (s:Int) (l:List Int) (hc:l.length≤1000000) :
  wp T mf_ref04_Right.body (bG mf_ref04_Right.res (.same (.bool (aI (s,l))))) ⟨ax [.dat (.agg [.int .i64 s,.sl (l.map aa)])],emp⟩:=by
 refine ap ?_;simp only[mf_ref04_Right];simp only[go_sem,go_sem_proc,ZJ,ZK];refine ae [1] [162001] (fun (i:Nat) tm mem=>i≤l.length∧l.all mE=(l.drop i).all mE∧tm 3 = .dat (.int .i64 i)) (fun i=>l.length-i) 0 (by refine⟨by omega,by simp,rfl⟩) ?_;intro vs ms hvs hms;simp only[go_sem,go_sem_proc,ZJ,ZK] at hvs hms;subst hvs hms;rintro i tm mem hk hm ⟨hi,hf,h3⟩;simp only[go_sem,go_sem_proc,ZJ,List.cons.injEq] at hk hm;have h1:=hk;rcases ZO (i<l.length) with hlt | hge
 ·have hd:l.drop i=l[i]::l.drop (i+1):=aad hlt
  have hx:l[i]?=some l[i]:=ZG hlt;generalize l[i]=x at *;have d1:decide ((i:Int)<(l.length:Int))=true:=decide_eq_true (by omega)
  have hfin:∀ b,mE x=true→b=(l.drop (i+1)).all mE→l.all mE=b:=by
   intro b h1 h2;rw[hf,hd,aan,h1,h2,aak]
  have hbad:¬ mE x=true→aI (s,l)=false:=by
   intro h1;rw[Bool.not_eq_true] at h1;unfold aI;rw[hf,hd,aan,h1]
   rfl
  have w3:IntKind.i64.wrap ((i:Int)+1)=((i+1:Nat):Int):=by rw[aj _ (by omega) (by omega)];omega
  simp only[go_sem,go_sem_proc,ZJ,h1,h3,hm,hx,d1,w3,aa,ZK,ZP,List.cons.injEq]
  repeat' (first|refine qS ?_ ?_|fail)<;>intro h<;>simp only[h,go_sem,go_sem_proc,ZJ,h1,h3,hm,hx,d1,w3,aa,ZK,ZP,List.cons.injEq]
  ·rw[hbad fun h=>by have:=(nF x).1 h;(simp only[Option.some.injEq,Data.bool.injEq,Data.int.injEq,true_and,decide_eq_true_eq,decide_eq_false_iff_not,ZJ,beq_iff_eq,beq_eq_false_iff_ne,ne_eq] at*<;> omega)]
  ·exact⟨i+1,by omega,by omega,hfin _ ((nF x).2 (by (simp only[Option.some.injEq,Data.bool.injEq,Data.int.injEq,true_and,decide_eq_true_eq,decide_eq_false_iff_not,ZJ,beq_iff_eq,beq_eq_false_iff_ne,ne_eq] at*<;> omega))) rfl,rfl⟩
  ·rw[hbad fun h=>by have:=(nF x).1 h;(simp only[Option.some.injEq,Data.bool.injEq,Data.int.injEq,true_and,decide_eq_true_eq,decide_eq_false_iff_not,ZJ,beq_iff_eq,beq_eq_false_iff_ne,ne_eq] at*<;> omega)]
 ·have he:l.drop i=[]:=List.drop_eq_nil_of_le (by omega)
  rw[he] at hf;have hall:l.all mE=true:=by rw[hf];rfl
  have d1:decide ((i:Int)<(l.length:Int))=false:=decide_eq_false (by omega);rcases List.eq_nil_or_concat l with rfl | ⟨r,x,rfl⟩
  ·have d2:decide ((i:Int)<0)=false:=d1
   simp only[go_sem,go_sem_proc,ZJ,h1,h3,hm,d2,aah,aab,aac,beq_self_eq_true,Z6,bne]
   repeat' (first|refine qS ?_ ?_|fail)<;>intro h<;>simp only[h,go_sem,go_sem_proc,ZJ,h1,h3,hm,d2,aah,aab,aac,beq_self_eq_true,Z6,bne]
   all_goals (refine congrArg (fun b=>some (Data.bool b)) ?_;unfold aI;simp;try simp only[decide_eq_true_eq,decide_eq_false_iff_not,beq_iff_eq,beq_eq_false_iff_ne,aao,aap,beq_eq_false_iff_ne,ne_eq] at *;omega)
  ·rw[List.concat_eq_append] at *
   have hne:(((r++[x]).length:Int)==0)=false:=by simp;omega
   have hw:IntKind.i64.wrap (((r++[x]).length:Int)-1)=(r.length:Int):=by
    have hl2:(r++[x]).length=r.length+1:=by simp
    rw[aj _ (by omega) (by omega)];omega
   have hg:((r++[x]).map aa)[r.length]?=some [.int .i64 x]:=by simp [aa]
   have hr:aI (s,r++[x])=((s==1||s == -1)&&decide (((r++[x]).length:Int)≤60)&&(x != 0)):=by
    unfold aI;rw[hall];simp only[List.getLast?_append,List.getLast?_singleton];simp;have e1:decide (r.length≤59)=decide ((r.length:Int)+1≤60):=decide_eq_decide.2 (by omega);have e2:(some x != some (0:Int))=(x != 0):=by simp [bne]
    rw[e1,e2]
   rw[hr];simp only[go_sem,go_sem_proc,ZJ,h1,h3,hm,d1,hne,hw,hg,ZK]
   repeat' (first|refine qS ?_ ?_|fail)<;>intro h<;>simp only[h,go_sem,go_sem_proc,ZJ,h1,h3,hm,d1,hne,hw,hg,ZK]
   all_goals (refine congrArg (fun b=>some (Data.bool b)) ?_;clear hf hall hr hg hw hk hm h1 h3 d1;rw[aaq];simp only[aar,Bool.or_eq_true,decide_eq_true_eq,decide_eq_false_iff_not,beq_iff_eq,beq_eq_false_iff_ne,aao,aap,ne_eq,ZJ,false_iff,true_iff] at *;omega)
noncomputable def CU:List Data→Option PRes:=FF (α:=Int × (List Int)) (fun (s,l)=>([.agg [.int .i64 s,.sl (l.map aa)]]:List Data)) (fun (s,l)=>aG (l.length≤1000000) (.same (.agg (bF (iO (s,l))))))
theorem DH:∀ a b:Int × (List Int),(fun (s,l)=>([.agg [.int .i64 s,.sl (l.map aa)]]:List Data)) a=(fun (s,l)=>([.agg [.int .i64 s,.sl (l.map aa)]]:List Data)) b→a=b:=by
  rintro⟨s1,l1⟩ ⟨s2,l2⟩ h;simp only[List.cons.injEq,Data.agg.injEq,Data.int.injEq,Data.sl.injEq] at h;exact ZH h.1.1.2 (af ai _ _ h.1.2.1)
@[go_sem] theorem P8 (s:Int) (l:List Int) (hc:l.length≤1000000):CU [.agg [.int .i64 s,.sl (l.map aa)]]=some (.same (.agg (bF (iO (s,l))))):=(aV DH (s,l)).trans (an hc _)
theorem OO (T:Tab) (bR:T cn=mkE mw) (bw:T cC=mkE oH) (s:Int) (l:List Int) (hc:l.length≤1000000) :
  wp T mf_ref04_Neg.body (bG mf_ref04_Neg.res (.same (.agg (bF (iO (s,l)))))) ⟨ax [.dat (.agg [.int .i64 s,.sl (l.map aa)])],emp⟩:=by
 refine ap ?_;simp only[mf_ref04_Neg]
 by_cases hr:aI (s,l)=true
 ·obtain⟨z,hz,e⟩:=(bj _).1 hr
  have e1:iO (s,l)=aP (-z):=by unfold iO;rw[if_pos hr,e,aQ]
  cases e
  have hw:IntKind.i64.wrap (0-z.sign) = -z.sign:=by
   have:=Int.sign_trichotomy z;rw[aj _ (by omega) (by omega)];omega
  rw[e1];refine qI ?_
  repeat' (intro h<;>simp only[h,go_sem,go_sem_proc,ZJ,bR,bw,hr,hc,hw,sd,bF]<;>try refine qS ?_ ?_)
 ·have hr:aI (s,l)=false:=by simpa using hr
  have e1:iO (s,l)=(0,[]):=by unfold iO;rw[hr];rfl
  rw[e1];refine qI ?_
  repeat' (intro h<;>simp only[h,go_sem,go_sem_proc,ZJ,bR,bw,hr,hc,bF,Z6]<;>try refine qS ?_ ?_)
theorem z7 (n:Int):(n.tmod 1048576).natAbs=n.natAbs % 1048576:=by rw[Int.natAbs_tmod];rfl
theorem Ag (n:Int):(n.tdiv 1048576).natAbs=n.natAbs / 1048576:=by rw[Int.natAbs_tdiv];rfl
noncomputable def JP:List Data→Option PRes:=FF (α:=Int) (fun (n:Int)=>([.int .i64 n]:List Data)) (fun (n:Int)=>aG (ca n) (.same (.agg (bF (aP n)))))
theorem G9:∀ a b:Int,(fun (n:Int)=>([.int .i64 n]:List Data)) a=(fun (n:Int)=>([.int .i64 n]:List Data)) b→a=b:=by
  intro n1 n2 h;simp only[List.cons.injEq,Data.int.injEq,Data.agg.injEq,Data.sl.injEq,Data.bool.injEq,Data.str.injEq,Data.ptr.injEq,Data.tup.injEq,Prod.mk.injEq,true_and,and_true] at h ⊢
  first | exact h | simpa [aas,and_assoc] using h | grind
@[go_sem] theorem Qq (n:Int) (hc:ca n):JP [.int .i64 n]=some (.same (.agg (bF (aP n)))):=(aV G9 n).trans (an hc _)
theorem RQ (T:Tab) (bw:T cC=mkE oH) (n:Int) (hc:ca n) :
  wp T mf_ref04_Of.body (bG mf_ref04_Of.res (.same (.agg (bF (aP n))))) ⟨ax [.dat (.int .i64 n)],emp⟩:=by
 refine ap ?_;simp only[mf_ref04_Of];have hc':=hc;unfold ca at hc';obtain⟨hn1,hn2⟩:=hc';have hlen:(dg n.natAbs).length≤60:=dg_len.2 (jz hc);rcases ZO (n=0) with rfl | hn0
 ·simp only[go_sem,go_sem_proc,ZJ,bw,bF,beq_self_eq_true]
  repeat' (first|refine qS ?_ ?_|fail)<;>intro h<;>simp only[h,go_sem,go_sem_proc,ZJ,bw,bF,beq_self_eq_true]
  rfl
 have hne:(n==0)=false:=by simpa using hn0
 have hs:∀ s:Int,s=n.sign→eU s (dg n.natAbs)=aP n:=fun s h=>cX rfl fun _=>h
 have hlen':(dg n.natAbs).length≤1000000:=by omega
 rcases ZO (n<0) with hneg | hpos
 ·have hsn:=hs (-1) (aat hneg).symm
  simp only[go_sem,go_sem_proc,ZJ,bw,hne,hneg,decide_true];refine ae [2,3] [144002] (fun ((u,g,l):Int × Nat × List Int) tm mem=>u≤0∧n≤u∧dg n.natAbs=l++dg u.natAbs∧tm 0 = .dat (.int .i64 u)∧tm 4 = .ref 144022 g 1 0 l.length∧mem 144022=some (g,ay aa l)) (fun (u,_)=>u.natAbs) (n,0,[]) (by refine⟨by omega,by omega,rfl,rfl,rfl,rfl⟩) ?_;intro vs ms hvs hms;simp only[go_sem,go_sem_proc,ZJ,bw,hneg,decide_true] at hvs hms;subst hvs hms;rintro⟨u,g,l⟩ tm mem hk hm ⟨hu,hnu,hd,h0,h4,hm22⟩;simp only[go_sem,go_sem_proc,ZJ,bw,List.cons.injEq] at hk hm;obtain⟨h2,h3⟩:=hk;rcases ZO (u=0) with rfl | hu0
  ·rw[show (0:Int).natAbs=0 from rfl,f8,aau] at hd
   rw[hd] at hsn hlen';simp only[go_sem,go_sem_proc,ZJ,bw,h0,h2,h3,h4,hm,hm22,hsn,hlen',bO bc,aav,bF,ZK,beq_self_eq_true]
   repeat' (first|refine qS ?_ ?_|fail)<;>intro h<;>simp only[h,go_sem,go_sem_proc,ZJ,bw,h0,h2,h3,h4,hm,hm22,hsn,hlen',bO bc,aav,bF,ZK,beq_self_eq_true]
  ·have hul:l.length≤60:=by
    have:=congrArg aaw hd;rw[aax] at this;omega
   have hun:(u==0)=false:=by simpa using hu0
   have hap:=fun d:Int=>dk bc fO 144022 g 8 l d (cs:=[.dat (.int .i64 d)]) rfl (by omega) (by omega)
   have e1:=z7 u;have e2:=Ag u;have e3:u.tmod 1048576≤0:=by have:=aay (a:=-u) 1048576 (by omega);rw[Int.neg_tmod] at this;omega
   have e4:u.tdiv 1048576≤0∧u≤u.tdiv 1048576:=by
    have:=aaz (a:=-u) (b:=1048576) (by omega) (by omega);rw[Int.neg_tdiv] at this;omega
   have hw1:IntKind.i64.wrap (u.tdiv 1048576)=u.tdiv 1048576:=aj _ (by omega) (by omega);have hw2:IntKind.i64.wrap (0-u.tmod 1048576) = -(u.tmod 1048576):=by rw[aj _ (by omega) (by omega)];omega
   have hdu:=jV (n:=u.natAbs) (by omega)
   have hfin:∀ d:Int,d=((u.natAbs % 1048576:Nat):Int)→∃ i':Int × Nat × List Int,i'.1.natAbs<u.natAbs∧i'.1≤0∧n≤i'.1∧dg n.natAbs=i'.2.2++dg i'.1.natAbs∧MV.dat (.int .i64 (u.tdiv 1048576))=MV.dat (.int .i64 i'.1)∧MV.ref 144022 (g+1) 1 0 (l.length+1)=MV.ref 144022 i'.2.1 1 0 i'.2.2.length∧some (g+1,ay aa (l++[d]))=some (i'.2.1,ay aa i'.2.2):=by
    intro d hdd;refine⟨(u.tdiv 1048576,g+1,l++[d]),by dsimp only;omega,by dsimp only;omega,by dsimp only;omega,?_,rfl,by simp,rfl⟩
    dsimp only;rw[hd,hdu,hdd,e2,aaA]
    rfl
   by_cases hz:u.tmod 1048576<0
   ·simp only[go_sem,go_sem_proc,ZJ,bw,h0,h2,h3,h4,hm,hm22,hun,hap,hw1,hw2,hz,decide_true,ZK,List.cons.injEq]
    repeat' (first|refine qS ?_ ?_|fail)<;>intro h<;>simp only[h,go_sem,go_sem_proc,ZJ,bw,h0,h2,h3,h4,hm,hm22,hun,hap,hw1,hw2,hz,decide_true,ZK,List.cons.injEq]
    exact hfin _ (by omega)
   ·simp only[go_sem,go_sem_proc,ZJ,bw,h0,h2,h3,h4,hm,hm22,hun,hap,hw1,hw2,hz,decide_false,ZK,List.cons.injEq]
    repeat' (first|refine qS ?_ ?_|fail)<;>intro h<;>simp only[h,go_sem,go_sem_proc,ZJ,bw,h0,h2,h3,h4,hm,hm22,hun,hap,hw1,hw2,hz,decide_false,ZK,List.cons.injEq]
    exact hfin _ (by omega)
 ·have hsn:=hs 1 (aaB (by omega)).symm
  simp only[go_sem,go_sem_proc,ZJ,bw,hne,hpos,decide_false];refine ae [2,3] [144002] (fun ((u,g,l):Int × Nat × List Int) tm mem=>0≤u∧u≤n∧dg n.natAbs=l++dg u.natAbs∧tm 0 = .dat (.int .i64 u)∧tm 4 = .ref 144022 g 1 0 l.length∧mem 144022=some (g,ay aa l)) (fun (u,_)=>u.natAbs) (n,0,[]) (by refine⟨by omega,by omega,rfl,rfl,rfl,rfl⟩) ?_;intro vs ms hvs hms;simp only[go_sem,go_sem_proc,ZJ,bw,hpos,decide_false] at hvs hms;subst hvs hms;rintro⟨u,g,l⟩ tm mem hk hm ⟨hu,hnu,hd,h0,h4,hm22⟩;simp only[go_sem,go_sem_proc,ZJ,bw,List.cons.injEq] at hk hm;obtain⟨h2,h3⟩:=hk;rcases ZO (u=0) with rfl | hu0
  ·rw[show (0:Int).natAbs=0 from rfl,f8,aau] at hd
   rw[hd] at hsn hlen';simp only[go_sem,go_sem_proc,ZJ,bw,h0,h2,h3,h4,hm,hm22,hsn,hlen',bO bc,aav,bF,ZK,beq_self_eq_true]
   repeat' (first|refine qS ?_ ?_|fail)<;>intro h<;>simp only[h,go_sem,go_sem_proc,ZJ,bw,h0,h2,h3,h4,hm,hm22,hsn,hlen',bO bc,aav,bF,ZK,beq_self_eq_true]
  ·have hul:l.length≤60:=by
    have:=congrArg aaw hd;rw[aax] at this;omega
   have hun:(u==0)=false:=by simpa using hu0
   have hap:=fun d:Int=>dk bc fO 144022 g 8 l d (cs:=[.dat (.int .i64 d)]) rfl (by omega) (by omega)
   have e1:=z7 u;have e2:=Ag u;have e3:=aay (a:=u) 1048576 (by omega);have e4:=aaz (a:=u) (b:=1048576) (by omega) (by omega);have hw1:IntKind.i64.wrap (u.tdiv 1048576)=u.tdiv 1048576:=aj _ (by omega) (by omega);have hdu:=jV (n:=u.natAbs) (by omega);have hz:decide (u.tmod 1048576<0)=false:=decide_eq_false (by omega);simp only[go_sem,go_sem_proc,ZJ,bw,h0,h2,h3,h4,hm,hm22,hun,hap,hw1,hz,ZK,List.cons.injEq]
   repeat' (first|refine qS ?_ ?_|fail)<;>intro h<;>simp only[h,go_sem,go_sem_proc,ZJ,bw,h0,h2,h3,h4,hm,hm22,hun,hap,hw1,hz,ZK,List.cons.injEq]
   refine⟨(u.tdiv 1048576,g+1,l++[u.tmod 1048576]),by dsimp only;omega,by dsimp only;omega,by dsimp only;omega,?_,rfl,by simp,by first | rfl | simp [go_sem]⟩
   dsimp only;rw[hd,hdu,e2,aaA,show u.tmod 1048576=((u.natAbs % 1048576:Nat):Int) by omega]
   rfl
def nX (a b:Raw):Bool:=decide (a=b)
noncomputable def Dc:List Data→Option PRes:=FF (α:=Int × (List Int) × Int × (List Int)) (fun (s,l,s2,l2)=>([.agg [.int .i64 s,.sl (l.map aa)],.agg [.int .i64 s2,.sl (l2.map aa)]]:List Data)) (fun (s,l,s2,l2)=>aG (l.length≤1000000∧l2.length≤1000000) (.same (dR (kp (s,l) (s2,l2)))))
theorem Cj:∀ a b:Int × (List Int) × Int × (List Int),(fun (s,l,s2,l2)=>([.agg [.int .i64 s,.sl (l.map aa)],.agg [.int .i64 s2,.sl (l2.map aa)]]:List Data)) a=(fun (s,l,s2,l2)=>([.agg [.int .i64 s,.sl (l.map aa)],.agg [.int .i64 s2,.sl (l2.map aa)]]:List Data)) b→a=b:=by
  rintro⟨s1,l1,s21,l21⟩ ⟨s2,l2,s22,l22⟩ h;simp only[List.cons.injEq,Data.agg.injEq,Data.int.injEq,Data.sl.injEq] at h;exact ZH h.1.1.2 (ZH (af ai _ _ h.1.2.1) (ZH h.2.1.1.2 (af ai _ _ h.2.1.2.1)))
@[go_sem] theorem PV (s:Int) (l:List Int) (s2:Int) (l2:List Int) (hc:l.length≤1000000∧l2.length≤1000000):Dc [.agg [.int .i64 s,.sl (l.map aa)],.agg [.int .i64 s2,.sl (l2.map aa)]]=some (.same (dR (kp (s,l) (s2,l2)))):=(aV Cj (s,l,s2,l2)).trans (an hc _)
theorem NP (T:Tab) (bR:T cn=mkE mw) (dK:T ic=mkE sE) (bw:T cC=mkE oH) (s:Int) (l:List Int) (s2:Int) (l2:List Int) (hc:l.length≤1000000∧l2.length≤1000000) :
  wp T mf_ref04_Gcd.body (bG mf_ref04_Gcd.res (.same (dR (kp (s,l) (s2,l2))))) ⟨ax [.dat (.agg [.int .i64 s,.sl (l.map aa)]),.dat (.agg [.int .i64 s2,.sl (l2.map aa)])],emp⟩:=by
 refine ap ?_;simp only[mf_ref04_Gcd];obtain⟨hl1,hl2⟩:=hc
 by_cases hr:aI (s,l)=true
 ·by_cases hr2:aI (s2,l2)=true
  ·obtain⟨x,hx,e⟩:=(bj _).1 hr
   obtain⟨y,hy,e2⟩:=(bj _).1 hr2
   have hm:kp (s,l) (s2,l2)=(aP (aaC x.natAbs y.natAbs:Nat),0):=by
    rw[e,e2];unfold kp
    rw[bJ hx,bJ hy,aQ,aQ]
    rfl
   rw[hm];clear hm
   cases e
   cases e2;have hlx:=fD hx;have hly:=fD hy;have hg:=qg hx hy;generalize hX:x.natAbs=X at *;generalize hY:y.natAbs=Y at *;have hl1':(dg X).length≤1000000:=by omega
   simp only[go_sem,go_sem_proc,ZJ,bR,dK,bw,hr,hr2,hX,hY,hl1,hl2,hl1',aa,ZK];refine ae [4] [164004] (fun ((a,b):Nat × Nat) tm mem=>a<LIM∧b<LIM∧aaC X Y=aaC a b∧tm 6 = .dat (.sl ((dg a).map aa))∧tm 7 = .dat (.sl ((dg b).map aa))) (fun (_,b)=>b) (X,Y) (by refine⟨hx,hy,rfl,rfl,rfl⟩) ?_
   intro vs ms hvs hms;simp only[go_sem,go_sem_proc,ZJ,bR,dK,bw,hX,hY] at hvs hms;subst hvs hms;rintro⟨a,b⟩ tm mem hk hm ⟨ha,hb,hgc,h6,h7⟩;simp only[go_sem,go_sem_proc,ZJ,bR,dK,bw,List.cons.injEq] at hk hm;have h4:=hk;have hla:(dg a).length≤60:=dg_len.2 ha;have hlb:(dg b).length≤60:=dg_len.2 hb;rcases Nat.eq_zero_or_pos b with h0 | hpos
   ·subst h0
    have hz:dg 0=[]:=rfl;have hla':(dg a).length≤1000000:=by omega
    rw[Nat.gcd_zero_right] at hgc;have hs:eU 1 (dg a)=aP ((a:Nat):Int):=cX (by simp) fun hn=>(aaB (by omega)).symm
    rw[hgc];refine qI ?_
    repeat' (intro h<;>simp only[h,go_sem,go_sem_proc,ZJ,bR,dK,bw,h4,h6,h7,hm,hz,hla',hs,bF,dR,cS,Z6,aah,aab,aac,show ¬ ((0:Int)>0) by omega,decide_false]<;>try refine qS ?_ ?_)
   ·have hne:decide (((dg b).length:Int)>0)=true:=by
     have:dg b≠[]:=by rw[Ne,ni];omega
     have:=List.length_pos_iff.2 this;exact decide_eq_true (by omega)
    have hdiv:=ur a b ⟨by omega,by omega,hpos⟩
    simp only[digs] at hdiv;refine qI ?_
    repeat' (intro h<;>simp only[h,go_sem,go_sem_proc,ZJ,bR,dK,bw,h4,h6,h7,hm,hne,hdiv,ZK]<;>try refine qS ?_ ?_)
    exact⟨(b,a % b),aag _ hpos,hb,aaD (Nat.mod_le _ _) ha,by dsimp only;rw[hgc,aaE a b,Nat.gcd_rec b a,aaE],rfl,rfl⟩
  ·have hr2:aI (s2,l2)=false:=by simpa using hr2
   have hm:kp (s,l) (s2,l2)=((0,[]),1):=by unfold kp;rw[hr2,aal];rfl
   rw[hm];refine qI ?_
   repeat' (intro h<;>simp only[h,go_sem,go_sem_proc,ZJ,bR,dK,bw,hr,hr2,hl1,hl2,bF,dR,Z6]<;>try refine qS ?_ ?_)
 ·have hr:aI (s,l)=false:=by simpa using hr
  have hm:kp (s,l) (s2,l2)=((0,[]),1):=by unfold kp;rw[hr,aam];rfl
  rw[hm];refine qI ?_
  repeat' (intro h<;>simp only[h,go_sem,go_sem_proc,ZJ,bR,dK,bw,hr,hl1,hl2,bF,dR,Z6]<;>try refine qS ?_ ?_)

noncomputable def DB:List Data→Option PRes:=FF (α:=Int × (List Int) × Int × (List Int)) (fun (s,l,s2,l2)=>([.agg [.int .i64 s,.sl (l.map aa)],.agg [.int .i64 s2,.sl (l2.map aa)]]:List Data)) (fun (s,l,s2,l2)=>aG (l.length≤1000000∧l2.length≤1000000) (.same (dj (jj (s,l) (s2,l2)))))
theorem CE:∀ a b:Int × (List Int) × Int × (List Int),(fun (s,l,s2,l2)=>([.agg [.int .i64 s,.sl (l.map aa)],.agg [.int .i64 s2,.sl (l2.map aa)]]:List Data)) a=(fun (s,l,s2,l2)=>([.agg [.int .i64 s,.sl (l.map aa)],.agg [.int .i64 s2,.sl (l2.map aa)]]:List Data)) b→a=b:=by
  rintro⟨s1,l1,s21,l21⟩ ⟨s2,l2,s22,l22⟩ h;simp only[List.cons.injEq,Data.agg.injEq,Data.int.injEq,Data.sl.injEq] at h;exact ZH h.1.1.2 (ZH (af ai _ _ h.1.2.1) (ZH h.2.1.1.2 (af ai _ _ h.2.1.2.1)))
@[go_sem] theorem PU (s:Int) (l:List Int) (s2:Int) (l2:List Int) (hc:l.length≤1000000∧l2.length≤1000000):DB [.agg [.int .i64 s,.sl (l.map aa)],.agg [.int .i64 s2,.sl (l2.map aa)]]=some (.same (dj (jj (s,l) (s2,l2)))):=(aV CE (s,l,s2,l2)).trans (an hc _)
theorem O3 (T:Tab) (bR:T cn=mkE mw) (dK:T ic=mkE sE) (im:T lF=mkE yQ) (cg:T gk=mkE q0) (bw:T cC=mkE oH) (s:Int) (l:List Int) (s2:Int) (l2:List Int) (hc:l.length≤1000000∧l2.length≤1000000) :
  wp T mf_ref04_Div.body (bG mf_ref04_Div.res (.same (dj (jj (s,l) (s2,l2))))) ⟨ax [.dat (.agg [.int .i64 s,.sl (l.map aa)]),.dat (.agg [.int .i64 s2,.sl (l2.map aa)])],emp⟩:=by
 refine ap ?_;simp only[mf_ref04_Div];obtain⟨hl1,hl2⟩:=hc
 by_cases hr:aI (s,l)=true
 ·by_cases hr2:aI (s2,l2)=true
  ·obtain⟨x,hx,e⟩:=(bj _).1 hr
   obtain⟨y,hy,e2⟩:=(bj _).1 hr2
   by_cases hy0:y=0
   ·have hm:jj (s,l) (s2,l2)=((0,[]),(0,[]),15):=by
     rw[e,e2];unfold jj
     rw[bJ hx,bJ hy,aQ,aQ,if_pos (by rfl),if_pos hy0]
    rw[hm]
    cases e
    cases e2;have h0:((y.sign:Int)==0)=true:=by rw[hy0];rfl
    simp only[go_sem,go_sem_proc,ZJ,bR,dK,im,cg,bw,hr,hr2,hl1,hl2,h0,bF,dj,Z6]
    repeat' (first|refine qS ?_ ?_|fail)<;>intro h<;>simp only[h,go_sem,go_sem_proc,ZJ,bR,dK,im,cg,bw,hr,hr2,hl1,hl2,h0,bF,dj,Z6]
   ·have hm:jj (s,l) (s2,l2)=(aP (x.fdiv y),aP (x.fmod y),0):=by
     rw[e,e2];exact lf hx hy hy0
    rw[hm];clear hm
    cases e
    cases e2;have hlx:=fD hx;have hly:=fD hy;have hy0':(y.sign==0)=false:=by rw[beq_eq_false_iff_ne,Ne,Int.sign_eq_zero_iff_zero];exact hy0
    have hypos:0<y.natAbs:=by omega
    have h1:=dY x;have h2:=dY y;have hp:x.sign*y.sign=(x*y).sign:=(aaF x y).symm;have h3:=dY (x*y);have hw:IntKind.i64.wrap (x.sign*y.sign)=x.sign*y.sign:=by rw[hp];exact aj _ (by omega) (by omega)
    have hdiv:=ur x.natAbs y.natAbs ⟨by omega,by omega,hypos⟩
    simp only[digs] at hdiv;have hq:=mh (y:=y) hx hy0;have hr3:=AT (x:=x) hy hy0;have hlq:x.natAbs / y.natAbs<LIM:=aaD (Nat.div_le_self _ _) hx;have hlq':(dg (x.natAbs / y.natAbs)).length≤60:=dg_len.2 hlq;have hlr:x.natAbs % y.natAbs<LIM:=Nat.lt_trans (aag _ hypos) hy;have hlr':(dg (x.natAbs % y.natAbs)).length≤60:=dg_len.2 hlr
    by_cases hlow:x.sign*y.sign<0∧x.natAbs % y.natAbs≠0
    ·obtain⟨eq,er⟩:=ol hlow.1 hlow.2
     have hne:(((dg (x.natAbs % y.natAbs)).length:Int)==0)=false:=by
      have:dg (x.natAbs % y.natAbs)≠[]:=by rw[Ne,ni];exact hlow.2
      have:=List.length_pos_iff.2 this;rw[beq_eq_false_iff_ne];omega
     have hneg:decide (x.sign*y.sign≥0)=false:=decide_eq_false (by have:=hlow.1;omega);have hd1:dg 1=[1]:=by simp [dg,dgF]
     have hl1d:(dg 1).length=1:=by rw[hd1];rfl
     have hadd:=Dd (x.natAbs / y.natAbs) 1 ⟨by omega,by omega⟩
     simp only[digs,hd1,Z5,Z6,aa] at hadd;have hsub:=sc y.natAbs (x.natAbs % y.natAbs) ⟨by omega,by omega,Z3 (aag _ hypos)⟩
     simp only[digs] at hsub
     have hla:(dg (x.natAbs / y.natAbs+1)).length≤1000000:=by
      have:(x.natAbs / y.natAbs+1)<LIM:=by rw[eq] at hq;rw[aaG,aaH] at hq;exact hq
      have:=(dg_len (k:=60)).2 this;omega
     have hlb:(dg (y.natAbs-x.natAbs % y.natAbs)).length≤1000000:=by have:=sJ y.natAbs (x.natAbs % y.natAbs);omega
     have hs1:eU (-1) (dg (x.natAbs / y.natAbs+1))=aP (x.fdiv y):=cX (by rw[eq,aaG,aaH]) fun _=>by rw[eq,Int.sign_neg,aaB (show (0:Int)<((x.natAbs / y.natAbs+1:Nat):Int) by exact Int.natCast_pos.2 (Nat.succ_pos _))]
     have hs2:eU y.sign (dg (y.natAbs-x.natAbs % y.natAbs))=aP (x.fmod y):=by
      refine cX ?_ fun hn=>?_
      ·rw[er];rcases cz y with ⟨e',h3⟩ | ⟨e',h3⟩ | ⟨e',h3⟩<;>rw[e']<;>omega
      ·rw[er,aaF,aaI,aaB (show (0:Int)<((y.natAbs-x.natAbs % y.natAbs:Nat):Int) by omega),aaJ]
     simp only[go_sem,go_sem_proc,ZJ,bR,dK,im,cg,bw,hr,hr2,hl1,hl2,hy0',hw,hdiv,hne,hneg,hadd,hsub,hla,hlb,hs1,hs2,aa,ZK,bF,dj,cS]
     repeat' (first|refine qS ?_ ?_|fail)<;>intro h<;>simp only[h,go_sem,go_sem_proc,ZJ,bR,dK,im,cg,bw,hr,hr2,hl1,hl2,hy0',hw,hdiv,hne,hneg,hadd,hsub,hla,hlb,hs1,hs2,aa,ZK,bF,dj,cS]
    ·obtain⟨eq,er⟩:=lz hy0 hlow
     have hlow':(decide (x.sign*y.sign≥0)=false∧(((dg (x.natAbs % y.natAbs)).length:Int)==0)=true)∨decide (x.sign*y.sign≥0)=true:=by
      by_cases hn:x.sign*y.sign<0
      ·left
       have:x.natAbs % y.natAbs=0:=Decidable.not_not.1 fun h=>hlow ⟨hn,h⟩
       rw[this];exact⟨decide_eq_false (by omega),rfl⟩
      ·right;exact decide_eq_true (by omega)
     have hla:(dg (x.natAbs / y.natAbs)).length≤1000000:=by omega
     have hlb:(dg (x.natAbs % y.natAbs)).length≤1000000:=by omega
     have hs1:eU (x.sign*y.sign) (dg (x.natAbs / y.natAbs))=aP (x.fdiv y):=by
      refine cX ?_ fun hn=>?_
      ·rw[eq]
       have hgen:∀ Q:Nat,(x=0→Q=0)→(x.sign*y.sign*(Q:Int)).natAbs=Q:=by
        intro Q h0;rcases cz x with ⟨e,h1⟩ | ⟨e,h1⟩ | ⟨e,h1⟩<;>rcases cz y with ⟨e',h3⟩ | ⟨e',h3⟩ | ⟨e',h3⟩<;>rw[e,e']<;>first | omega | (rw[h0 h1];rfl)
       exact hgen _ fun h0=>by rw[h0];exact Nat.zero_div _
      ·rw[eq,hp,aaF,aaF,aaF,aaI,aaI,aaB (show (0:Int)<((x.natAbs / y.natAbs:Nat):Int) from Int.natCast_pos.2 (aaK hn)),aaJ]
     have hs2:eU x.sign (dg (x.natAbs % y.natAbs))=aP (x.fmod y):=by
      refine cX ?_ fun hn=>?_
      ·rw[er]
       have hgen:∀ Q:Nat,(x=0→Q=0)→(x.sign*(Q:Int)).natAbs=Q:=by
        intro Q h0;rcases cz x with ⟨e,h1⟩ | ⟨e,h1⟩ | ⟨e,h1⟩<;>rw[e]<;>first | omega | (rw[h0 h1];rfl)
       exact hgen _ fun h0=>by rw[h0];exact Nat.zero_mod _
      ·rw[er,aaF,aaI,aaB (show (0:Int)<((x.natAbs % y.natAbs:Nat):Int) from Int.natCast_pos.2 (aaK hn)),aaJ]
     rcases hlow' with ⟨hlow1,hlow2⟩ | hlow1
     ·simp only[go_sem,go_sem_proc,ZJ,bR,dK,im,cg,bw,hr,hr2,hl1,hl2,hy0',hw,hdiv,hlow1,hlow2,hla,hlb,hs1,hs2,aa,ZK,bF,dj,cS]
      repeat' (first|refine qS ?_ ?_|fail)<;>intro h<;>simp only[h,go_sem,go_sem_proc,ZJ,bR,dK,im,cg,bw,hr,hr2,hl1,hl2,hy0',hw,hdiv,hlow1,hlow2,hla,hlb,hs1,hs2,aa,ZK,bF,dj,cS]
     ·simp only[go_sem,go_sem_proc,ZJ,bR,dK,im,cg,bw,hr,hr2,hl1,hl2,hy0',hw,hdiv,hlow1,hla,hlb,hs1,hs2,aa,ZK,bF,dj,cS]
      repeat' (first|refine qS ?_ ?_|fail)<;>intro h<;>simp only[h,go_sem,go_sem_proc,ZJ,bR,dK,im,cg,bw,hr,hr2,hl1,hl2,hy0',hw,hdiv,hlow1,hla,hlb,hs1,hs2,aa,ZK,bF,dj,cS]
  ·have hr2:aI (s2,l2)=false:=by simpa using hr2
   have hm:jj (s,l) (s2,l2)=((0,[]),(0,[]),1):=by unfold jj;rw[hr2,aal];rfl
   rw[hm];simp only[go_sem,go_sem_proc,ZJ,bR,dK,im,cg,bw,hr,hr2,hl1,hl2,bF,dj,Z6]
   repeat' (first|refine qS ?_ ?_|fail)<;>intro h<;>simp only[h,go_sem,go_sem_proc,ZJ,bR,dK,im,cg,bw,hr,hr2,hl1,hl2,bF,dj,Z6]
 ·have hr:aI (s,l)=false:=by simpa using hr
  have hm:jj (s,l) (s2,l2)=((0,[]),(0,[]),1):=by unfold jj;rw[hr,aam];rfl
  rw[hm];simp only[go_sem,go_sem_proc,ZJ,bR,dK,im,cg,bw,hr,hl1,hl2,bF,dj,Z6]
  repeat' (first|refine qS ?_ ?_|fail)<;>intro h<;>simp only[h,go_sem,go_sem_proc,ZJ,bR,dK,im,cg,bw,hr,hl1,hl2,bF,dj,Z6]
def mf_ref05_Same:MFunc :=
 { n:=17,np:=2,res:=[.t 4],body :=
 (.seq (.ops [
 Zk 2 120002 0,Zk 3 120003 1,Zb 4 false])
 (.seq (.ops [
 Zf 5 0 2,Zu 6 2 5,Zf 7 0 3,Zu 8 2 7,⟨some 9,none,.call gR [(.t 6),(.t 8)]⟩,Zv 10 9,⟨some 11,some (10,true),.fad 2 (.t 2)⟩,⟨some 12,some (10,true),.load 2 true (.t 11)⟩,⟨some 13,some (10,true),.fad 2 (.t 3)⟩,⟨some 14,some (10,true),.load 2 true (.t 13)⟩,⟨some 15,some (10,true),.call gR [(.t 12),(.t 14)]⟩,Zq 16 10 15,Zv 4 16])
 .ret)) }
def mf_ref05_Of:MFunc :=
 { n:=13,np:=2,res:=[.cell 4 4 true,.t 5],body :=
 (.seq (.ops [
 ⟨some 4,none,.alloc 124004 [(ZI 0),.nil,(ZI 0),.nil]⟩,Zi 5 0])
 (.seq (.ops [
 Zv 6 0,⟨some 7,none,.call lA [(.t 6)]⟩,Zv 8 1,⟨some 9,none,.call lA [(.t 8)]⟩,⟨some 10,none,.call mW [(.t 7),(.t 9)]⟩,Zx 11 0 10,Zx 12 1 10,Zs 4 4 11,Zv 5 12])
 .ret)) }
def mf_ref05_SameBig:MFunc :=
 { n:=38,np:=2,res:=[.t 4],body :=
 (.seq (.ops [
 Zk 2 142002 0,Zk 3 142003 1,Zb 4 false])
 (.seq (.seq (.ops [
 Zf 6 0 2,Zl 7 1 6,Zf 8 0 3,Zl 9 1 8,Zo 10 .neq 7 9,Zv 11 10,⟨some 12,some (11,false),.fad 1 (.t 2)⟩,⟨some 13,some (11,false),.load 1 false (.t 12)⟩,⟨some 14,some (11,false),.len (.t 13)⟩,⟨some 15,some (11,false),.fad 1 (.t 3)⟩,⟨some 16,some (11,false),.load 1 false (.t 15)⟩,⟨some 17,some (11,false),.len (.t 16)⟩,⟨some 18,some (11,false),.bin .neq (.t 14) (.t 17)⟩,Zp 19 11 18])
 (.cond (.t 19)
 (.seq (.ops [
 Zb 4 false])
 .ret)
 .skip))
 (.seq (.seq (.ops [
 Zi 5 0])
 (.block 0
 (.loop
 (.seq (.seq (.ops [
 Zv 20 5,Zf 21 1 2,Zl 22 1 21,Zn 23 22,Zo 24 .lss 20 23])
 (.cond (.t 24)
 .skip
 (.exit 0)))
 (.seq (.block 1
 (.seq (.opsD [
 Zf 27 1 2,Zl 28 1 27,Zv 29 5,Za 30 1 28 29,Zl 31 1 30,Zf 32 1 3,Zl 33 1 32,Zv 34 5,Za 35 1 33 34,Zl 36 1 35,Zo 37 .neq 31 36] [[],[],[],[],[],[],[],[],[],[],[]])
 (.cond (.t 37)
 (.seq (.ops [
 Zb 4 false])
 .ret)
 .skip)))
 (.ops [
 Zv 25 5,Zc 26 .add 25 1,Zv 5 26]))))))
 (.seq (.ops [
 Zb 4 true])
 .ret)))) }
def mf_ref05_New:MFunc :=
 { n:=57,np:=2,res:=[.cell 4 4 true,.t 5],body :=
 (.seq (.ops [
 Zk 2 143002 0,Zk 3 143003 1,⟨some 4,none,.alloc 143004 [(ZI 0),.nil,(ZI 0),.nil]⟩,Zi 5 0])
 (.seq (.seq (.ops [
 Zu 14 2 2,⟨some 15,none,.call cn [(.t 14)]⟩,Zt 16 15,Zv 17 16,⟨some 18,some (17,false),.load 2 true (.t 3)⟩,⟨some 19,some (17,false),.call cn [(.t 18)]⟩,⟨some 20,some (17,false),.un .not (.t 19)⟩,Zp 21 17 20])
 (.cond (.t 21)
 (.seq (.ops [
 ⟨some 22,none,.build [(ZI 0),.nil,(ZI 0),.nil] []⟩,Zs 4 4 22,Zi 5 1])
 .ret)
 .skip))
 (.seq (.seq (.ops [
 Zf 23 0 3,Zl 24 1 23,Zc 25 .eql 24 0])
 (.cond (.t 25)
 (.seq (.ops [
 ⟨some 26,none,.build [(ZI 0),.nil,(ZI 0),.nil] []⟩,Zs 4 4 26,Zi 5 15])
 .ret)
 .skip))
 (.seq (.seq (.ops [
 Zf 27 0 3,Zl 28 1 27,Zc 29 .lss 28 0])
 (.cond (.t 29)
 (.seq (.ops [
 Zu 30 2 2,⟨some 31,none,.call kv [(.t 30)]⟩,Zs 2 2 31])
 (.ops [
 Zu 32 2 3,⟨some 33,none,.call kv [(.t 32)]⟩,Zs 2 3 33]))
 .skip))
 (.seq (.ops [
 Zu 35 2 2,Zu 36 2 3,⟨some 37,none,.call mJ [(.t 35),(.t 36)]⟩,Zv 34 37,Zx 38 0 34,Zx 39 1 34,⟨some 6,none,.alloc 143006 [(ZI 0),.nil]⟩,Zs 2 6 38,Zv 7 39])
 (.seq (.ops [
 Zu 41 2 2,Zu 42 2 6,⟨some 43,none,.call ki [(.t 41),(.t 42)]⟩,Zv 40 43,Zx 44 0 40,Zx 45 1 40,Zx 46 2 40,⟨some 8,none,.alloc 143008 [(ZI 0),.nil]⟩,⟨some 9,none,.alloc 143009 [(ZI 0),.nil]⟩,Zs 2 8 44,Zs 2 9 45,Zv 10 46])
 (.seq (.ops [
 Zu 48 2 3,Zu 49 2 6,⟨some 50,none,.call ki [(.t 48),(.t 49)]⟩,Zv 47 50,Zx 51 0 47,Zx 52 1 47,Zx 53 2 47,⟨some 11,none,.alloc 143011 [(ZI 0),.nil]⟩,⟨some 12,none,.alloc 143012 [(ZI 0),.nil]⟩,Zs 2 11 51,Zs 2 12 52,Zv 13 53])
 (.seq (.ops [
 Zu 54 2 8,Zu 55 2 11,⟨some 56,none,.build [(ZI 0),.nil,(ZI 0),.nil] [(0,2,(.t 54)),(2,2,(.t 55))]⟩,Zs 4 4 56,Zi 5 0])
 .ret)))))))) }
noncomputable def Dq:List Data→Option PRes:=FF (α:=Int × (List Int) × Int × (List Int)) (fun (s,l,s2,l2)=>([.agg [.int .i64 s,.sl (l.map aa)],.agg [.int .i64 s2,.sl (l2.map aa)]]:List Data)) (fun (s,l,s2,l2)=>aG (l.length≤1000000∧l2.length≤1000000) (.same (bE (fH (s,l) (s2,l2)))))
theorem Dk:∀ a b:Int × (List Int) × Int × (List Int),(fun (s,l,s2,l2)=>([.agg [.int .i64 s,.sl (l.map aa)],.agg [.int .i64 s2,.sl (l2.map aa)]]:List Data)) a=(fun (s,l,s2,l2)=>([.agg [.int .i64 s,.sl (l.map aa)],.agg [.int .i64 s2,.sl (l2.map aa)]]:List Data)) b→a=b:=by
  rintro⟨s1,l1,s21,l21⟩ ⟨s2,l2,s22,l22⟩ h;simp only[List.cons.injEq,Data.agg.injEq,Data.int.injEq,Data.sl.injEq] at h;exact ZH h.1.1.2 (ZH (af ai _ _ h.1.2.1) (ZH h.2.1.1.2 (af ai _ _ h.2.1.2.1)))
@[go_sem] theorem PO (s:Int) (l:List Int) (s2:Int) (l2:List Int) (hc:l.length≤1000000∧l2.length≤1000000):Dq [.agg [.int .i64 s,.sl (l.map aa)],.agg [.int .i64 s2,.sl (l2.map aa)]]=some (.same (bE (fH (s,l) (s2,l2)))):=(aV Dk (s,l,s2,l2)).trans (an hc _)
theorem On (T:Tab) (bR:T cn=mkE mw) (tD:T kv=mkE CU) (vh:T mJ=mkE Dc) (tQ:T ki=mkE DB) (s:Int) (l:List Int) (s2:Int) (l2:List Int) (hc:l.length≤1000000∧l2.length≤1000000) :
  wp T mf_ref05_New.body (bG mf_ref05_New.res (.same (bE (fH (s,l) (s2,l2))))) ⟨ax [.dat (.agg [.int .i64 s,.sl (l.map aa)]),.dat (.agg [.int .i64 s2,.sl (l2.map aa)])],emp⟩:=by
 refine ap ?_;simp only[mf_ref05_New];obtain⟨hl1,hl2⟩:=hc
 by_cases hr:aI (s,l)=true
 ·by_cases hr2:aI (s2,l2)=true
  ·obtain⟨x,hx,e⟩:=(bj _).1 hr
   obtain⟨y,hy,e2⟩:=(bj _).1 hr2
   by_cases h0:y=0
   ·have hm:fH (s,l) (s2,l2)=(bz,15):=by
     unfold fH;rw[hr,hr2,e2,aQ,if_pos (by rfl),if_pos h0]
    rw[hm]
    cases e
    cases e2;have hs:(y.sign==0)=true:=by rw[h0];rfl
    refine qI ?_
    repeat' (intro h<;>simp only[h,go_sem,go_sem_proc,ZJ,bR,tD,vh,tQ,hr,hr2,hl1,hl2,hs,bE,ad,bz,Z6]<;>try refine qS ?_ ?_)
   ·have main:∀ p q:Int,p.natAbs<LIM→q.natAbs<LIM→0<q→∃ g:Raw,kp (aP p) (aP q)=(g,0)∧g.2.length≤1000000∧jj (aP p) g=(aP (aaL p q).num,aP (p.fmod ((aaC p.natAbs q.natAbs:Nat):Int)),0)∧jj (aP q) g=(aP (aaL p q).den,aP (q.fmod ((aaC p.natAbs q.natAbs:Nat):Int)),0):=by
     intro p q hp hq hq0;have hgl:=qg hp hq;have hgl':((aaC p.natAbs q.natAbs:Nat):Int).natAbs<LIM:=by rw[aaH];exact hgl
     have hg0:=uc (p:=p) (q:=q) (by omega);obtain⟨h1,h2⟩:=mR (p:=p) hq0;refine⟨aP ((aaC p.natAbs q.natAbs:Nat):Int),?_,eP hgl',?_,?_⟩
     ·unfold kp;rw[bJ hp,bJ hq,aQ,aQ];rfl
     ·rw[lf hp hgl' (by omega),h1]
     ·rw[lf hq hgl' (by omega),h2]
    have hs0:(y.sign==0)=false:=by simpa using h0
    rcases Int.lt_or_gt_of_ne h0 with hneg | hpos
    ·have hs1:decide (y.sign<0)=true:=by rw[aat hneg];rfl
     obtain⟨⟨g1,g2⟩,hg,hgl,hd1,hd2⟩:=main (-x) (-y) (by omega) (by omega) (by omega)
     have hm:fH (s,l) (s2,l2)=(ak (aaL (-x) (-y)),0):=by
      rw[e,e2,i7 hx hy h0,Rat.neg_divInt_neg]
     rw[hm];have hn1:iO (s,l)=aP (-x):=by unfold iO;rw[if_pos hr,e,aQ]
     have hn2:iO (s2,l2)=aP (-y):=by unfold iO;rw[if_pos hr2,e2,aQ]
     have hy1:s2=y.sign:=congrArg Prod.fst e2;have hl3:(aP (-x)).2.length≤1000000:=eP (by omega);have hl4:(aP (-y)).2.length≤1000000:=eP (by omega);clear e e2;unfold ak;generalize aP (-x)=X at *;generalize aP (-y)=Y at *;obtain⟨x1,x2⟩:=X;obtain⟨y1,y2⟩:=Y;rw[←hy1] at hs0 hs1;refine qI ?_
     repeat' (intro h<;>simp only[h,go_sem,go_sem_proc,ZJ,bR,tD,vh,tQ,hr,hr2,hl1,hl2,hs0,hs1,hn1,hn2,hl3,hl4,hg,hgl,hd1,hd2,bE,ad,dR,dj,bF]<;>try refine qS ?_ ?_)
    ·have hs1:decide (y.sign<0)=false:=by rw[aaB hpos];rfl
     obtain⟨⟨g1,g2⟩,hg,hgl,hd1,hd2⟩:=main x y hx hy hpos
     have hm:fH (s,l) (s2,l2)=(ak (aaL x y),0):=by
      rw[e,e2,i7 hx hy h0]
     rw[hm];have hy1:s2=y.sign:=congrArg Prod.fst e2;rw[←e] at hg hd1;rw[←e2] at hg hd2;rw[←hy1] at hs0 hs1;unfold ak;refine qI ?_
     repeat' (intro h<;>simp only[h,go_sem,go_sem_proc,ZJ,bR,tD,vh,tQ,hr,hr2,hl1,hl2,hs0,hs1,hg,hgl,hd1,hd2,bE,ad,dR,dj,bF]<;>try refine qS ?_ ?_)
  ·have hr2:aI (s2,l2)=false:=by simpa using hr2
   have hm:fH (s,l) (s2,l2)=(bz,1):=by unfold fH;rw[hr2,aal];rfl
   rw[hm];refine qI ?_
   repeat' (intro h<;>simp only[h,go_sem,go_sem_proc,ZJ,bR,tD,vh,tQ,hr,hr2,hl1,hl2,bE,ad,bz,Z6]<;>try refine qS ?_ ?_)
 ·have hr:aI (s,l)=false:=by simpa using hr
  have hm:fH (s,l) (s2,l2)=(bz,1):=by unfold fH;rw[hr,aam];rfl
  rw[hm];refine qI ?_
  repeat' (intro h<;>simp only[h,go_sem,go_sem_proc,ZJ,bR,tD,vh,tQ,hr,hl1,hl2,bE,ad,bz,Z6]<;>try refine qS ?_ ?_)
noncomputable def IA:List Data→Option PRes:=FF (α:=Int × Int) (fun (p,q)=>([.int .i64 p,.int .i64 q]:List Data)) (fun (p,q)=>aG (ca p∧ca q) (.same (bE (fH (aP p) (aP q)))))
theorem Hh:∀ a b:Int × Int,(fun (p,q)=>([.int .i64 p,.int .i64 q]:List Data)) a=(fun (p,q)=>([.int .i64 p,.int .i64 q]:List Data)) b→a=b:=by
  rintro⟨p1,q1⟩ ⟨p2,q2⟩ h;simp only[List.cons.injEq,Data.int.injEq,Data.agg.injEq,Data.sl.injEq,Data.bool.injEq,Data.str.injEq,Data.ptr.injEq,Data.tup.injEq,Prod.mk.injEq,true_and,and_true] at h ⊢
  first | exact h | simpa [aas,and_assoc] using h | grind
@[go_sem] theorem QJ (p:Int) (q:Int) (hc:ca p∧ca q):IA [.int .i64 p,.int .i64 q]=some (.same (bE (fH (aP p) (aP q)))):=(aV Hh (p,q)).trans (an hc _)
theorem R0 (T:Tab) (QC:T lA=mkE JP) (NB:T mW=mkE Dq) (p:Int) (q:Int) (hc:ca p∧ca q) :
  wp T mf_ref05_Of.body (bG mf_ref05_Of.res (.same (bE (fH (aP p) (aP q))))) ⟨ax [.dat (.int .i64 p),.dat (.int .i64 q)],emp⟩:=by
 refine ap ?_;simp only[mf_ref05_Of];obtain⟨h1,h2⟩:=hc;have l1:(aP p).2.length≤1000000:=eP (jz h1);have l2:(aP q).2.length≤1000000:=eP (jz h2);generalize hP:aP p=P at *;generalize hQ:aP q=Q at *;obtain⟨x1,x2⟩:=P;obtain⟨y1,y2⟩:=Q;refine qI ?_
 repeat' (intro h<;>simp only[h,go_sem,go_sem_proc,ZJ,QC,NB,h1,h2,hP,hQ,l1,l2,bF,bE,ad]<;>try refine qS ?_ ?_)
noncomputable def pD:List Data→Option PRes:=FF (α:=Int × (List Int) × Int × (List Int)) (fun (s,l,s2,l2)=>([.agg [.int .i64 s,.sl (l.map aa)],.agg [.int .i64 s2,.sl (l2.map aa)]]:List Data)) (fun (s,l,s2,l2)=>aG (l.length≤1000000∧l2.length≤1000000) (.same (.bool (nX (s,l) (s2,l2)))))
theorem uY:∀ a b:Int × (List Int) × Int × (List Int),(fun (s,l,s2,l2)=>([.agg [.int .i64 s,.sl (l.map aa)],.agg [.int .i64 s2,.sl (l2.map aa)]]:List Data)) a=(fun (s,l,s2,l2)=>([.agg [.int .i64 s,.sl (l.map aa)],.agg [.int .i64 s2,.sl (l2.map aa)]]:List Data)) b→a=b:=by
  rintro⟨s1,l1,s21,l21⟩ ⟨s2,l2,s22,l22⟩ h;simp only[List.cons.injEq,Data.agg.injEq,Data.int.injEq,Data.sl.injEq] at h;exact ZH h.1.1.2 (ZH (af ai _ _ h.1.2.1) (ZH h.2.1.1.2 (af ai _ _ h.2.1.2.1)))
@[go_sem] theorem KL (s:Int) (l:List Int) (s2:Int) (l2:List Int) (hc:l.length≤1000000∧l2.length≤1000000):pD [.agg [.int .i64 s,.sl (l.map aa)],.agg [.int .i64 s2,.sl (l2.map aa)]]=some (.same (.bool (nX (s,l) (s2,l2)))):=(aV uY (s,l,s2,l2)).trans (an hc _)
theorem DG (T:Tab)  (s:Int) (l:List Int) (s2:Int) (l2:List Int) (hc:l.length≤1000000∧l2.length≤1000000) :
  wp T mf_ref05_SameBig.body (bG mf_ref05_SameBig.res (.same (.bool (nX (s,l) (s2,l2))))) ⟨ax [.dat (.agg [.int .i64 s,.sl (l.map aa)]),.dat (.agg [.int .i64 s2,.sl (l2.map aa)])],emp⟩:=by
 refine ap ?_;simp only[mf_ref05_SameBig];obtain⟨hl1,hl2⟩:=hc
 by_cases hs:s=s2
 ·subst hs
  by_cases hl:l.length=l2.length
  ·have e1:(((l.length:Nat):Int)==((l2.length:Nat):Int))=true:=by simp;omega
   simp only[go_sem,go_sem_proc,ZJ,beq_self_eq_true,ZK,e1,aai,bne];refine ae [2,3] [142002,142003] (fun (i:Nat) tm mem=>i≤l.length∧l.take i=l2.take i∧tm 5 = .dat (.int .i64 i)) (fun i=>l.length-i) 0 (by refine⟨by omega,by simp,rfl⟩) ?_;intro vs ms hvs hms;simp only[go_sem,go_sem_proc,ZJ,ZK] at hvs hms;subst hvs hms;rintro i tm mem hk hm ⟨hi,hf,h5⟩;simp only[go_sem,go_sem_proc,ZJ,List.cons.injEq] at hk hm;obtain⟨h2,h3⟩:=hk;obtain⟨m2,m3⟩:=hm;rcases ZO (i<l.length) with hlt | hge
   ·have hx:l[i]?=some l[i]:=ZG hlt
    have hy:l2[i]?=some l2[i]:=ZG (by omega);have hn1:l.take (i+1)=l.take i++[l[i]]:=by rw[aaM,hx];rfl
    have hn2:l2.take (i+1)=l2.take i++[l2[i]]:=by rw[aaM,hy];rfl
    generalize l[i]=x at *;generalize l2[i]=y at *;have d1:decide ((i:Int)<(l.length:Int))=true:=decide_eq_true (by omega);have w3:IntKind.i64.wrap ((i:Int)+1)=((i+1:Nat):Int):=by rw[aj _ (by omega) (by omega)];omega
    by_cases hxy:x=y
    ·subst hxy
     simp only[go_sem,go_sem_proc,ZJ,h2,h3,h5,m2,m3,hx,hy,d1,w3,aa,ZK,ZP,List.cons.injEq,beq_self_eq_true,aai]
     repeat' (first|refine qS ?_ ?_|fail)<;>intro h<;>simp only[h,go_sem,go_sem_proc,ZJ,h2,h3,h5,m2,m3,hx,hy,d1,w3,aa,ZK,ZP,List.cons.injEq,beq_self_eq_true,aai]
     exact⟨i+1,by omega,by omega,by rw[hn1,hn2,hf],rfl⟩
    ·have hne:(x==y)=false:=by simpa using hxy
     have hr:nX (s,l) (s,l2)=false:=by
      refine decide_eq_false fun h=>hxy ?_
      rw[Prod.mk.injEq] at h;rw[h.2,hy] at hx;exact (Option.some.inj hx).symm
     rw[hr];simp only[go_sem,go_sem_proc,ZJ,h2,h3,h5,m2,m3,hx,hy,d1,w3,hne,aa,ZK,ZP,List.cons.injEq,aaj]
     repeat' (first|refine qS ?_ ?_|fail)<;>intro h<;>simp only[h,go_sem,go_sem_proc,ZJ,h2,h3,h5,m2,m3,hx,hy,d1,w3,hne,aa,ZK,ZP,List.cons.injEq,aaj]
   ·have d1:decide ((i:Int)<(l.length:Int))=false:=decide_eq_false (by omega)
    have hr:nX (s,l) (s,l2)=true:=by
     refine decide_eq_true ?_;rw[ZR (by omega),ZR (by omega)] at hf;rw[hf]
    rw[hr];simp only[go_sem,go_sem_proc,ZJ,h2,h3,h5,m2,m3,d1,ZK]
    repeat' (first|refine qS ?_ ?_|fail)<;>intro h<;>simp only[h,go_sem,go_sem_proc,ZJ,h2,h3,h5,m2,m3,d1,ZK]
  ·have e1:(((l.length:Nat):Int)==((l2.length:Nat):Int))=false:=by simp;omega
   have hr:nX (s,l) (s,l2)=false:=by
    refine decide_eq_false fun h=>hl ?_
    rw[Prod.mk.injEq] at h;rw[h.2]
   rw[hr];simp only[go_sem,go_sem_proc,ZJ,beq_self_eq_true,ZK,e1,aai,aaj,bne]
   repeat' (first|refine qS ?_ ?_|fail)<;>intro h<;>simp only[h,go_sem,go_sem_proc,ZJ,beq_self_eq_true,ZK,e1,aai,aaj,bne]
 ·have hne:(s==s2)=false:=by simpa using hs
  have hr:nX (s,l) (s2,l2)=false:=by
   refine decide_eq_false fun h=>hs ?_
   rw[Prod.mk.injEq] at h;exact h.1
  rw[hr];simp only[go_sem,go_sem_proc,ZJ,hne,ZK,aai,aaj,bne]
  repeat' (first|refine qS ?_ ?_|fail)<;>intro h<;>simp only[h,go_sem,go_sem_proc,ZJ,hne,ZK,aai,aaj,bne]
def vO (a b:aU):Bool:=decide (a=b)
noncomputable def pF:List Data→Option PRes:=FF (α:=Int × (List Int) × Int × (List Int) × Int × (List Int) × Int × (List Int)) (fun (s,l,s2,l2,s3,l3,s4,l4)=>([.agg [.int .i64 s,.sl (l.map aa),.int .i64 s2,.sl (l2.map aa)],.agg [.int .i64 s3,.sl (l3.map aa),.int .i64 s4,.sl (l4.map aa)]]:List Data)) (fun (s,l,s2,l2,s3,l3,s4,l4)=>aG (l.length≤1000000∧l2.length≤1000000∧l3.length≤1000000∧l4.length≤1000000) (.same (.bool (vO ((s,l),(s2,l2)) ((s3,l3),(s4,l4))))))
theorem BG:∀ a b:Int × (List Int) × Int × (List Int) × Int × (List Int) × Int × (List Int),(fun (s,l,s2,l2,s3,l3,s4,l4)=>([.agg [.int .i64 s,.sl (l.map aa),.int .i64 s2,.sl (l2.map aa)],.agg [.int .i64 s3,.sl (l3.map aa),.int .i64 s4,.sl (l4.map aa)]]:List Data)) a=(fun (s,l,s2,l2,s3,l3,s4,l4)=>([.agg [.int .i64 s,.sl (l.map aa),.int .i64 s2,.sl (l2.map aa)],.agg [.int .i64 s3,.sl (l3.map aa),.int .i64 s4,.sl (l4.map aa)]]:List Data)) b→a=b:=by
  rintro⟨s1,l1,s21,l21,s31,l31,s41,l41⟩ ⟨s2,l2,s22,l22,s32,l32,s42,l42⟩ h;simp only[List.cons.injEq,Data.agg.injEq,Data.int.injEq,Data.sl.injEq] at h;exact ZH h.1.1.2 (ZH (af ai _ _ h.1.2.1) (ZH h.1.2.2.1.2 (ZH (af ai _ _ h.1.2.2.2.1) (ZH h.2.1.1.2 (ZH (af ai _ _ h.2.1.2.1) (ZH h.2.1.2.2.1.2 (af ai _ _ h.2.1.2.2.2.1)))))))
@[go_sem] theorem Df (s:Int) (l:List Int) (s2:Int) (l2:List Int) (s3:Int) (l3:List Int) (s4:Int) (l4:List Int) (hc:l.length≤1000000∧l2.length≤1000000∧l3.length≤1000000∧l4.length≤1000000):pF [.agg [.int .i64 s,.sl (l.map aa),.int .i64 s2,.sl (l2.map aa)],.agg [.int .i64 s3,.sl (l3.map aa),.int .i64 s4,.sl (l4.map aa)]]=some (.same (.bool (vO ((s,l),(s2,l2)) ((s3,l3),(s4,l4))))):=(aV BG (s,l,s2,l2,s3,l3,s4,l4)).trans (an hc _)
theorem Ml (T:Tab) (tJ:T gR=mkE pD) (s:Int) (l:List Int) (s2:Int) (l2:List Int) (s3:Int) (l3:List Int) (s4:Int) (l4:List Int) (hc:l.length≤1000000∧l2.length≤1000000∧l3.length≤1000000∧l4.length≤1000000) :
  wp T mf_ref05_Same.body (bG mf_ref05_Same.res (.same (.bool (vO ((s,l),(s2,l2)) ((s3,l3),(s4,l4)))))) ⟨ax [.dat (.agg [.int .i64 s,.sl (l.map aa),.int .i64 s2,.sl (l2.map aa)]),.dat (.agg [.int .i64 s3,.sl (l3.map aa),.int .i64 s4,.sl (l4.map aa)])],emp⟩:=by
 refine ap ?_;simp only[mf_ref05_Same];obtain⟨hl1,hl2,hl3,hl4⟩:=hc
 have e:vO ((s,l),(s2,l2)) ((s3,l3),(s4,l4))=(nX (s,l) (s3,l3)&&nX (s2,l2) (s4,l4)):=by
  unfold vO nX;rw[aaq,aar,decide_eq_true_eq,decide_eq_true_eq,decide_eq_true_eq,Prod.mk.injEq]
 rw[e];rcases h1:nX (s,l) (s3,l3)
 ·refine qI ?_
  repeat' (intro h<;>simp only[h,go_sem,go_sem_proc,ZJ,tJ,hl1,hl2,hl3,hl4,h1,aam]<;>try refine qS ?_ ?_)
 ·refine qI ?_
  repeat' (intro h<;>simp only[h,go_sem,go_sem_proc,ZJ,tJ,hl1,hl2,hl3,hl4,h1,aak]<;>try refine qS ?_ ?_)


theorem pS {α:Type} {p:α→Bool} {l:List α} {i:Nat} {x:α} (hx:l[i]?=some x):(l.take (i+1)).all p=((l.take i).all p&&p x):=by
 rw[aaM,hx,List.all_append];simp
theorem DR {α:Type} {p:α→Bool} {l:List α} {i:Nat} {x:α} (hx:l[i]?=some x) (h:p x=false):l.all p=false:=by
 rw[List.all_eq_false];exact⟨x,aaN hx,by simp [h]⟩
end Go.Mini
namespace Go.Mini
open Go
variable {P:Program} {A:Nat→Prop} {w w':World} {B B':Lay} {mem mem':Mem}
structure iJ (P:Program) (f:FuncId) (E:List MV→Mem→Option Eff):Prop where
 real:Real P f
 run:∀ args mem eff,E args mem=some eff→∀ A w B vs,MemRel A w B mem→RL w (OA A B) B args vs→Jl P f vs A w B mem eff
def pH (res:List nw) (R:MV→Mem→Prop):bH→St→Prop
 | .exit _,_=>False
 | .normal,st=>∃ m,gy st res=some m∧R m st.mem
 | .ret,st=>∃ m,gy st res=some m∧R m st.mem
@[go_sem] theorem P7 {res:List nw} {st:St} (R:MV→Mem→Prop) (id:Nat):pH res R (.exit id) st=False:=_root_.id rfl
@[go_sem] theorem Na {res:List nw} {st:St} (R:MV→Mem→Prop):pH res R .normal st=∃ m,gy st res=some m∧R m st.mem:=_root_.id rfl
@[go_sem] theorem RN {res:List nw} {st:St} (R:MV→Mem→Prop):pH res R .ret st=∃ m,gy st res=some m∧R m st.mem:=_root_.id rfl
theorem rp {mf:MFunc} {R:MV→Mem→Prop} {e:bH} {st:St} (h:pH mf.res R e st):Hu mf R e st:=by
 cases e with
 | exit id=>exact h
 | normal=>exact h
 | ret=>exact h
theorem yY {kb : Nat} {own : List Nat} {f : FuncId} {fn : Func} {mf : MFunc} (hf : P.funcs[f]? = some fn) (hname : (fn.name == "runtime.NumGoroutine") = false) (htr : jW P kb own fn = some mf) : Real P f := by
 cases hb:fn.body with
 | none=>simp [jW,hb] at htr
 | some c=>exact⟨fn,c,hf,hb,hname⟩
def mkQ (Q:List MV→Mem→Option (MV→Mem→Prop)) (args:List MV) (mem:Mem):Option Eff:=(Q args mem).map .rel
@[go_sem] theorem Ta (Q:List MV→Mem→Option (MV→Mem→Prop)) (args:List MV) (mem:Mem):mkQ Q args mem=(Q args mem).map .rel:=_root_.id rfl
theorem rB {T : Tab} {kb : Nat} {own : List Nat} (hT : ke P T) (hm : P.follows .mixedOrders = true) {f : FuncId} {fn : Func} {mf : MFunc} (hf : P.funcs[f]? = some fn) (hname : (fn.name == "runtime.NumGoroutine") = false) (htr : jW P kb own fn = some { mf with body := erase mf.body })
  {Q:List MV→Mem→Option (MV→Mem→Prop)} (h:∀ args mem R,Q args mem=some R→args.length≤mf.n∧wp T mf.body (pH mf.res R) ⟨ax args,mem⟩):iJ P f (mkQ Q):=by
 refine⟨yY hf hname htr,fun args mem eff hE A w B vs hmr hv=>?_⟩
 unfold mkQ at hE;rw[aaO] at hE;obtain⟨R,hR,rfl⟩:=hE;obtain⟨hlen,hwp⟩:=h args mem R hR;refine Calls.mono (la (Post:=R) hT hm hf htr hlen (fun e st hk=>rp hk) hwp hmr hv) fun e w' he=>?_
 obtain⟨v,m,mem',B',rfl,hs,hv',hp⟩:=he;exact⟨v,m,mem',B',rfl,hs,hv',hp⟩
inductive i8 (J:Key→Prop):MV→Prop
 | dat {d:Data}:i8 J (.dat d)
 | nil:i8 J .nil
 | ref {k g sz off len:Nat} (h:¬ J k):i8 J (.ref k g sz off len)
 | ptr {k g off:Nat} (h:¬ J k):i8 J (.ptr k g off)
 | clo {f:FuncId} {caps:List MV} (h:∀ (i:Nat) (m:MV),caps[i]?=some m→i8 J m):i8 J (.clo f caps)
 | agg {cs:List MV} (h:∀ (i:Nat) (m:MV),cs[i]?=some m→i8 J m):i8 J (.agg cs)
 | tup {cs:List MV} (h:∀ (i:Nat) (m:MV),cs[i]?=some m→i8 J m):i8 J (.tup cs)
 | no:i8 J .no
 | undef:i8 J .undef
theorem H0 {J:Key→Prop} {O:Nat→Prop} (hJ:∀ k,J k→B k=none) {m:MV} {v:Value} (h:VR w O B m v):i8 J m:=by
 induction h with
 | dat h=>exact .dat
 | nil=>exact .nil
 | ref he hg hv=>exact .ref fun hj=>by rw[hJ _ hj] at he;cases he
 | ptr he hg hv=>exact .ptr fun hj=>by rw[hJ _ hj] at he;cases he
 | clo hl hd ih=>exact .clo fun i m hi=>ih i m _ hi (ZG (by have hlt:=(List.getElem?_eq_some_iff.1 hi).1;omega))
 | agg hl hd ih=>exact .agg fun i m hi=>ih i m _ hi (ZG (by have hlt:=(List.getElem?_eq_some_iff.1 hi).1;omega))
 | tup hl hd ih=>exact .tup fun i m hi=>ih i m _ hi (ZG (by have hlt:=(List.getElem?_eq_some_iff.1 hi).1;omega))
 | no=>exact .no
 | undef=>exact .undef
open Classical in
noncomputable def lZ (J:Key→Prop) (B:Lay):Lay:=fun k=>if J k then none else B k
theorem ky {J:Key→Prop} {b:Nat} (h:Own (lZ J B) b):Own B b:=by
 obtain⟨k,e,he,hb⟩:=h;unfold lZ at he
 split at he
 ·cases he
 ·exact⟨k,e,he,hb⟩
theorem LP {J:Key→Prop} {m:MV} {v:Value} (h:VR w (OA A B) B m v) (hc:i8 J m):VR w (OA A (lZ J B)) (lZ J B) m v:=by
 have at_:∀ {k:Key} {e:Bk},¬ J k→B k=some e→lZ J B k=some e:=fun hk he=>by unfold lZ;rw[if_neg hk];exact he
 induction h with
 | dat h=>exact .dat (h.less fun b hb=>hb.imp ky id)
 | nil=>exact .nil
 | ref he hg hv=>cases hc with | ref hk=>exact .ref (at_ hk he) hg hv
 | ptr he hg hv=>cases hc with | ptr hk=>exact .ptr (at_ hk he) hg hv
 | clo hl hd ih=>cases hc with | clo hc=>exact .clo hl fun i d v hi hv=>ih i d v hi hv (hc i d hi)
 | agg hl hd ih=>cases hc with | agg hc=>exact .agg hl fun i d v hi hv=>ih i d v hi hv (hc i d hi)
 | tup hl hd ih=>cases hc with | tup hc=>exact .tup hl fun i d v hi hv=>ih i d v hi hv (hc i d hi)
 | no=>exact .no
 | undef=>exact .undef
theorem StepOK.drop {J:Key→Prop} {mem'':Mem} (h0:MemRel A w B mem) (hJ:∀ k,J k→mem k=none) (h:StepOK A w B w' B' mem') (h1:∀ k,J k→mem'' k=none) (h2:∀ k,¬ J k→mem'' k=mem' k)
  (hc:∀ k g cs,mem'' k=some (g,cs)→∀ m∈cs,(∃ d,m = .dat d)∨∃ k0 g0 cs0,mem k0=some (g0,cs0)∧m∈cs0):StepOK A w B w' (lZ J B') mem'':=by
 have hB:∀ k,J k→B k=none:=fun k hk=>h0.dom k (hJ k hk)
 have at_:∀ {k:Key},¬ J k→lZ J B' k=B' k:=fun hk=>by unfold lZ;rw[if_neg hk]
 have no_:∀ {k:Key},J k→lZ J B' k=none:=fun hk=>by unfold lZ;rw[if_pos hk]
 refine⟨⟨fun k hk=>?_,fun k k' e e' b he he' hb hb'=>?_,fun b ha ho=>h.mr.sep b ha (ky ho),h.mr.lt,fun k g cs hk=>?_⟩,⟨h.tr.size,fun b hb ho=>?_,fun k e he=>?_⟩,h.fr,fun b hb=>h.fresh b (ky hb)⟩
 ·by_cases hj:J k
  ·exact no_ hj
  ·rw[at_ hj];exact h.mr.dom k (by rw[←h2 k hj];exact hk)
 ·by_cases hj:J k
  ·rw[no_ hj] at he;cases he
  ·by_cases hj':J k'
   ·rw[no_ hj'] at he';cases he'
   ·rw[at_ hj] at he
    rw[at_ hj'] at he';exact h.mr.inj k k' e e' b he he' hb hb'
 ·by_cases hj:J k
  ·rw[h1 k hj] at hk;cases hk
  ·obtain⟨e,he,hg,hn,hb⟩:=h.mr.blk k g cs (by rw[←h2 k hj];exact hk)
   refine⟨e,by rw[at_ hj];exact he,hg,hn,fun b hbb=>?_⟩
   obtain⟨vs,T,hh,hz,hle,hr⟩:=hb b hbb;refine⟨vs,T,hh,hz,hle,fun i m hi=>?_⟩
   obtain⟨v,hv,hvr⟩:=hr i m hi;refine⟨v,hv,LP hvr ?_⟩;rcases hc k g cs hk m (aaN hi) with ⟨d,rfl⟩ | ⟨k0,g0,cs0,hm0,hmem⟩
   ·exact .dat
   ·obtain⟨e0,he0,hg0,hn0,hb0⟩:=h0.blk k0 g0 cs0 hm0
    cases hbk:e0.blk with
    | none=>rw[hn0 hbk] at hmem;cases hmem
    | some b0 =>
     obtain⟨vs0,T0,_,_,_,hr0⟩:=hb0 b0 hbk;obtain⟨i0,hi0⟩:=List.mem_iff_getElem?.1 hmem;obtain⟨v0,_,hvr0⟩:=hr0 i0 m hi0;exact H0 hB hvr0
 ·obtain⟨h3,h4⟩:=h.tr.old b hb ho
  exact⟨h3,fun hx=>h4 (ky hx)⟩
 ·have hj:¬ J k:=fun hj=>by rw[hB k hj] at he;cases he
  rw[at_ hj];exact h.tr.key k e he
def mkU (U:List MV→Mem→Option (Data × Key × Nat × Nat × Data)) (args:List MV) (mem:Mem):Option Eff:=(U args mem).map fun x => .upd x.1 x.2.1 x.2.2.1 x.2.2.2.1 (.dat x.2.2.2.2)
@[go_sem] theorem SX (U:List MV→Mem→Option (Data × Key × Nat × Nat × Data)) (args:List MV) (mem:Mem):mkU U args mem=(U args mem).map fun x => .upd x.1 x.2.1 x.2.2.1 x.2.2.2.1 (.dat x.2.2.2.2):=_root_.id rfl
theorem Hb {T : Tab} {kb : Nat} {own : List Nat} (hT : ke P T) (hm : P.follows .mixedOrders = true) {f : FuncId} {fn : Func} {mf : MFunc} (hf : P.funcs[f]? = some fn) (hname : (fn.name == "runtime.NumGoroutine") = false) (htr : jW P kb own fn = some { mf with body := erase mf.body })
  (J:Key→Prop) {U:List MV→Mem→Option (Data × Key × Nat × Nat × Data)}
  (h:∀ args mem r k g i d,U args mem=some (r,k,g,i,d)→args.length≤mf.n∧(∀ j,J j→mem j=none)∧¬ J k∧(∃ cs,mem k=some (g,cs)) ∧
   wp T mf.body (pH mf.res fun m mem'=>toD 6 emp m=some r∧∀ j,¬ J j→mem' j=aA mem k g ((fG mem k).set i (.dat d)) j) ⟨ax args,mem⟩):iJ P f (mkU U):=by
 refine⟨yY hf hname htr,fun args mem eff hE A w B vs hmr hv=>?_⟩
 unfold mkU at hE;rw[aaO] at hE;obtain⟨⟨r,k,g,i,d⟩,hU,rfl⟩:=hE;obtain⟨hlen,hJ,hk,⟨cs,hcs⟩,hwp⟩:=h args mem r k g i d hU;refine Calls.mono (la (Post:=fun m mem'=>toD 6 emp m=some r∧∀ j,¬ J j→mem' j=aA mem k g ((fG mem k).set i (.dat d)) j) hT hm hf htr hlen (fun e st hk=>rp hk) hwp hmr hv) fun e w' he=>?_
 obtain⟨v,m,mem',B',rfl,hs,hv',hd,hmem⟩:=he;refine⟨v,lZ J B',rfl,hs.drop hmr hJ (fun j hj=>?_) (fun j hj=>(hmem j hj).symm) ?_,.dat ((rj 6 m v r hd hv').less fun b hb=>hb.imp ky id)⟩
 ·have:j≠k:=fun e=>hk (e ▸ hj)
  simp only[aA,this,if_false];exact hJ j hj
 ·intro k2 g2 cs2 h2 m hm2
  by_cases hk2:k2=k
  ·subst hk2
   simp only[aA,if_true,Option.some.injEq,Prod.mk.injEq] at h2;obtain⟨-,rfl⟩:=h2;rcases aaP hm2 with hx | rfl
   ·refine .inr ⟨k2,g,cs,hcs,?_⟩
    simpa [fG,hcs] using hx
   ·exact .inl ⟨d,rfl⟩
  ·simp only[aA,hk2,if_false] at h2
   exact .inr ⟨k2,g2,cs2,h2,hm2⟩
def orE:Option Eff→Option Eff→Option Eff
 | some x,_=>some x
 | none,e=>e
@[go_sem] theorem Rv (x:Eff) (e:Option Eff):orE (some x) e=some x:=_root_.id rfl
@[go_sem] theorem Ru (e:Option Eff):orE none e=e:=_root_.id rfl
def Al (PT:FuncId→Option (List Data→Option PRes)) (ET:FuncId→Option (List MV→Mem→Option Eff)):Tab:=fun f args mem=>match ET f with
 | some E=>orE (E args mem) (mkT PT f args mem)
 | none=>mkT PT f args mem
theorem aq {PT:FuncId→Option (List Data→Option PRes)} {ET:FuncId→Option (List MV→Mem→Option Eff)} (h:∀ f F,PT f=some F→aO P f F) (hr:∀ f E,ET f=some E→iJ P f E):ke P (Al PT ET):=by
 intro f args mem eff hT;unfold Al at hT
 split at hT
 ·rename_i E hE
  have hs:=hr f E hE
  cases hx:E args mem with
  | none =>
   rw[hx] at hT;exact IM h f args mem eff hT
  | some y =>
   rw[hx] at hT
   cases hT;exact⟨hs.real,fun A w B vs hmr hv=>hs.run args mem eff hx A w B vs hmr hv⟩
 ·exact IM h f args mem eff hT
theorem RSpec.toE {f:FuncId} {G:List MV→Mem→Option (MV × Mem)} (h:RSpec P f G):iJ P f (mkG G):=by
 refine⟨h.real,fun args mem eff hE A w B vs hmr hv=>?_⟩
 unfold mkG at hE;rw[aaO] at hE;obtain⟨x,hx,rfl⟩:=hE;exact h.run args mem x hx A w B vs hmr hv
section
variable {PT:FuncId→Option (List Data→Option PRes)} {ET:FuncId→Option (List MV→Mem→Option Eff)} {f:FuncId}
theorem ah {F:List Data→Option PRes} (h:ET f=none) (h':PT f=some F):Al PT ET f=mkE F:=by
 funext args mem
 unfold Al;rw[h];exact congrFun (congrFun (Kx h') args) mem
theorem nz {E:List MV→Mem→Option Eff} (h:ET f=some E) (h':PT f=none):Al PT ET f=E:=by
 funext args mem
 unfold Al mkT;rw[h,h'];dsimp only
 cases E args mem<;>rfl
theorem ox {F:List Data→Option PRes} {G:List MV→Mem→Option (MV × Mem)} (h:ET f=some (mkG G)) (h':PT f=some F):Al PT ET f=yA F G:=by
 funext args mem
 unfold Al;rw[h];unfold yA mkG;rw[show mkT PT f args mem=mkE F args mem from congrFun (congrFun (Kx h') args) mem];dsimp only
 cases G args mem<;>rfl
end
def ETl (l:List (FuncId × (List MV→Mem→Option Eff))):FuncId→Option (List MV→Mem→Option Eff):=fun f=>(l.find? fun p=>p.1==f).map (·.2)
theorem aB {l:List (FuncId × (List MV→Mem→Option Eff))} (h:∀ p∈l,iJ P p.1 p.2):∀ f G,ETl l f=some G→iJ P f G:=by
 intro f F hf;unfold ETl at hf;rw[aaO] at hf;obtain⟨p,hp,rfl⟩:=hf;have h1:=List.mem_of_find?_eq_some hp;have h2:=List.find?_some hp;have h3:p.1=f:=by simpa using h2
 exact h3 ▸ h p h1
theorem av:∀ p∈([]:List (FuncId × (List MV→Mem→Option Eff))),iJ P p.1 p.2:=by simp
theorem eI {f:FuncId} {F:List MV→Mem→Option Eff} {l:List (FuncId × (List MV→Mem→Option Eff))} (h:iJ P f F) (hl:∀ p∈l,iJ P p.1 p.2):∀ p∈(f,F)::l,iJ P p.1 p.2:=by
 intro p hp;rcases List.mem_cons.1 hp with rfl | hp
 ·exact h
 ·exact hl p hp
open Classical in
noncomputable def QQ {α:Type} (M:α→List MV→Mem→Prop) (R:α→Mem→MV→Mem→Prop):List MV→Mem→Option (MV→Mem→Prop):=fun args mem=>if h:∃ a,M a args mem then some (R (Classical.choose h) mem) else none
theorem RO {α:Type} {M:α→List MV→Mem→Prop} {R:α→Mem→MV→Mem→Prop} (uniq:∀ a b args mem,M a args mem→M b args mem→a=b) {a:α} {args:List MV} {mem:Mem} (h:M a args mem):QQ M R args mem=some (R a mem):=by
 have hx:∃ b,M b args mem:=⟨a,h⟩;unfold QQ;rw[dif_pos hx,uniq _ _ _ _ (aaQ hx) h]
theorem B8 {α:Type} {M:α→List MV→Mem→Prop} {R:α→Mem→MV→Mem→Prop} {args:List MV} {mem:Mem} {x:MV→Mem→Prop} (h:QQ M R args mem=some x):∃ a,M a args mem∧x=R a mem:=by
 unfold QQ at h
 split at h
 ·rename_i hx
  exact⟨_,aaQ hx,(Option.some.inj h).symm⟩
 ·cases h
end Go.Mini
namespace Go.Mini
open Go
set_option maxRecDepth 10000
set_option maxHeartbeats 2000000
noncomputable def y9:List Data→Option PRes:=FF (α:=Int × (List Int) × Int × (List Int)) (fun (s,l,s2,l2)=>([.agg [.int .i64 s,.sl (l.map aa),.int .i64 s2,.sl (l2.map aa)]]:List Data)) (fun (s,l,s2,l2)=>some (.same (.bool (s==0))))
theorem CF:∀ a b:Int × (List Int) × Int × (List Int),(fun (s,l,s2,l2)=>([.agg [.int .i64 s,.sl (l.map aa),.int .i64 s2,.sl (l2.map aa)]]:List Data)) a=(fun (s,l,s2,l2)=>([.agg [.int .i64 s,.sl (l.map aa),.int .i64 s2,.sl (l2.map aa)]]:List Data)) b→a=b:=by
  rintro⟨s1,l1,s21,l21⟩ ⟨s2,l2,s22,l22⟩ h;simp only[List.cons.injEq,Data.agg.injEq,Data.int.injEq,Data.sl.injEq] at h;exact ZH h.1.1.2 (ZH (af ai _ _ h.1.2.1) (ZH h.1.2.2.1.2 (af ai _ _ h.1.2.2.2.1)))
@[go_sem] theorem Pu (s:Int) (l:List Int) (s2:Int) (l2:List Int):y9 [.agg [.int .i64 s,.sl (l.map aa),.int .i64 s2,.sl (l2.map aa)]]=some (.same (.bool (s==0))):=aV CF (s,l,s2,l2)
theorem w_zero (T:Tab)  (s:Int) (l:List Int) (s2:Int) (l2:List Int) :
  wp T mf_linear_zero.body (bG mf_linear_zero.res (.same (.bool (s==0)))) ⟨ax [.dat (.agg [.int .i64 s,.sl (l.map aa),.int .i64 s2,.sl (l2.map aa)])],emp⟩:=by
 refine ap ?_;simp only[mf_linear_zero];refine qI ?_
 repeat' (intro h<;>simp only[h,go_sem,go_sem_proc,ZJ]<;>try refine qS ?_ ?_)
def mQ (args:List MV) (mem:Mem):Option (Data × Key × Nat × Nat × Data) :=
 match args with
 | [.ptr k g 0,.dat (.agg [.int .i64 s,.sl l,.int .i64 s2,.sl l2]),.dat (.int .i64 e)]=>match mem k,mem 168004,mem 168006 with
  | some (g',[_,_,.dat (.bool c)]),none,none=>if g'=g∧k≠168004∧k≠168006 then some (.agg [.int .i64 s,.sl l,.int .i64 s2,.sl l2],k,g,2,.bool (c||e != 0)) else none
  | _,_,_=>none
 | _=>none
def EF (j:Key):Prop:=j=168004∨j=168006
theorem NK (T:Tab) (args:List MV) (mem:Mem) (r:Data) (k g i:Nat) (d:Data) (h:mQ args mem=some (r,k,g,i,d)) :
  args.length≤19∧(∀ j,EF j→mem j=none)∧¬ EF k∧(∃ cs,mem k=some (g,cs)) ∧
   wp T mf_linear_matrix_note.body (pH mf_linear_matrix_note.res fun m mem'=>toD 6 emp m=some r∧∀ j,¬ EF j→mem' j=aA mem k g ((fG mem k).set i (.dat d)) j) ⟨ax args,mem⟩:=by
 unfold mQ at h
 split at h
 ·rename_i k0 g0 s l s2 l2 e
  split at h
  ·rename_i g1 a b c hm h4 h6
   split at h
   ·rename_i hg
    obtain⟨rfl,n4,n6⟩:=hg;simp only[Option.some.injEq,Prod.mk.injEq] at h;obtain⟨rfl,rfl,rfl,rfl,rfl⟩:=h;refine⟨by simp,?_,?_,⟨_,hm⟩,?_⟩
    ·rintro j (rfl | rfl)
     ·exact h4
     ·exact h6
    ·rintro (h | h)
     ·exact n4 h
     ·exact n6 h
    ·have hfin:∀ x:Bool,fG mem k0=[a,b,.dat (.bool c)]:=fun _=>by simp only[fG,hm]
     have n4':(k0=168004)=False:=eq_false n4;have n6':(k0=168006)=False:=eq_false n6;have n4s:(168004=k0)=False:=eq_false (Ne.symm n4);have n6s:(168006=k0)=False:=eq_false (Ne.symm n6);refine ap ?_;simp only[mf_linear_matrix_note]
     cases c
     ·simp only[go_sem,go_sem_proc,ZJ,hm,h4,h6,n4',n6',n4s,n6s]
      repeat' (first|refine qS ?_ ?_|fail)<;>intro h<;>simp only[h,go_sem,go_sem_proc,ZJ,hm,h4,h6,n4',n6',n4s,n6s]
      refine⟨_,rfl,by first | rfl | simp [go_sem,toD],fun j hj=>?_⟩
      have j4:j≠168004:=fun h=>hj (.inl h)
      have j6:j≠168006:=fun h=>hj (.inr h)
      by_cases hjk:j=k0<;>simp [aA,fG,hm,j4,j6,hjk,n4,n6,bne]
     ·simp only[go_sem,go_sem_proc,ZJ,hm,h4,h6,n4',n6',n4s,n6s]
      repeat' (first|refine qS ?_ ?_|fail)<;>intro h<;>simp only[h,go_sem,go_sem_proc,ZJ,hm,h4,h6,n4',n6',n4s,n6s]
      refine⟨_,rfl,by first | rfl | simp [go_sem,toD],fun j hj=>?_⟩
      have j4:j≠168004:=fun h=>hj (.inl h)
      have j6:j≠168006:=fun h=>hj (.inr h)
      by_cases hjk:j=k0<;>simp [aA,fG,hm,j4,j6,hjk,n4,n6,bne]
   ·cases h
  ·cases h
 ·cases h
abbrev MR:=Nat × Nat × List aU
def cb (N:Nat) (rows:List MR):List MV:=rows.map fun x => .ref (x.1+900000) x.2.1 4 0 (N+1)
structure MatAt (go N:Nat) (rows:List MR) (bad:Bool) (mem:Mem):Prop where
 m:mem 129015=some (0,[.ref 129035 go 1 0 N,.dat (.int .i64 N),.dat (.bool bad)])
 o:mem 129035=some (go,cb N rows)
 r:∀ x∈rows,mem (x.1+900000)=some (x.2.1,ay ad x.2.2)
structure MatOK (N:Nat) (rows:List MR):Prop where
 len:rows.length=N
 nd:(rows.map (·.1)).Nodup
 row:∀ x∈rows,x.2.2.length=N+1∧∀ f∈x.2.2,okF f
def foreign (k:Nat):Prop:=k<900000∧k≠129015∧k≠129035∧k≠148008∧k≠148010∧k≠148013
def PS (mem0:Mem) (go N:Nat) (rows:List MR) (bad:Bool) (mem:Mem):Prop:=MatAt go N rows bad mem∧∀ k,foreign k→mem k=mem0 k
section
variable {mem0 mem:Mem} {go N:Nat} {rows:List MR} {bd:Bool}
theorem PS.flag (b:Bool) (h:PS mem0 go N rows bd mem):PS mem0 go N rows b (aA mem 129015 0 [.ref 129035 go 1 0 N,.dat (.int .i64 N),.dat (.bool b)]):=by
 refine⟨⟨by simp [aA],by simp [aA,h.1.o],fun x hx=>?_⟩,fun k hk=>?_⟩
 ·rw[←h.1.r x hx]
  exact if_neg (show ¬ ((x.1+900000:Nat)=129015) by omega)
 ·rw[←h.2 k hk]
  exact if_neg hk.2.1
theorem PS.own {k g:Nat} {cs:List MV} (hk:k=148008∨k=148010∨k=148013) (h:PS mem0 go N rows bd mem):PS mem0 go N rows bd (aA mem k g cs):=by
 have hne:∀ j:Nat,j≠k→aA mem k g cs j=mem j:=fun j hj=>if_neg hj
 refine⟨⟨by rw[hne _ (by omega)];exact h.1.m,by rw[hne _ (by omega)];exact h.1.o,fun x hx=>by rw[hne _ (by omega)];exact h.1.r x hx⟩,fun j hj=>?_⟩
 have:=hj.2;rw[hne _ (by omega)];exact h.2 j hj
theorem PS.set {i:Nat} {x:MR} (hok:MatOK N rows) (hi:rows[i]?=some x) (l:List aU) (h:PS mem0 go N rows bd mem):PS mem0 go N (rows.set i (x.1,x.2.1,l)) bd (aA mem (x.1+900000) x.2.1 (ay ad l)):=by
 have hne:∀ j:Nat,j≠x.1+900000→aA mem (x.1+900000) x.2.1 (ay ad l) j=mem j:=fun j hj=>if_neg hj
 obtain⟨hlt,hxi⟩:=List.getElem?_eq_some_iff.1 hi;refine⟨⟨by rw[hne _ (by omega)];exact h.1.m,?_,fun y hy=>?_⟩,fun j hj=>?_⟩
 ·rw[hne _ (by omega),h.1.o]
  congr 2
  unfold cb;apply aaR;intro j;rw[ZP,ZP,aaS]
  by_cases hij:i=j
  ·subst hij
   rw[if_pos rfl,if_pos hlt,hi]
   rfl
  ·rw[if_neg hij]
 ·obtain⟨j,hj⟩:=List.mem_iff_getElem?.1 hy
  rw[aaS] at hj
  by_cases hij:i=j
  ·subst hij
   rw[if_pos rfl,if_pos hlt] at hj
   cases hj;simp [aA]
  ·rw[if_neg hij] at hj
   have hne2:y.1≠x.1:=by
    intro he;have h1:(rows.map (·.1))[j]?=some y.1:=by rw[ZP,hj];rfl
    have h2:(rows.map (·.1))[i]?=some y.1:=by rw[ZP,hi,he];rfl
    have hl:i<(rows.map (·.1)).length:=by rw[ZK];exact hlt
    exact hij ((aaT hl hok.nd).1 (h2.trans h1.symm))
   rw[hne (y.1+900000) (by omega)];exact h.1.r y (aaN hj)
 ·have:=hj.1
  rw[hne j (by omega)];exact h.2 j hj
theorem PS.swap {i j:Nat} {a b:MR} (hi:rows[i]?=some a) (hj:rows[j]?=some b) (h:PS mem0 go N rows bd mem):PS mem0 go N ((rows.set i b).set j a) bd (aA (aA mem 129035 go (cb N (rows.set i b))) 129035 go (cb N ((rows.set i b).set j a))):=by
 have hne:∀ k:Nat,k≠129035→aA (aA mem 129035 go (cb N (rows.set i b))) 129035 go (cb N ((rows.set i b).set j a)) k=mem k:=fun k hk=>by simp [aA,hk]
 refine⟨⟨by rw[hne _ (by omega)];exact h.1.m,by simp [aA],fun x hx=>?_⟩,fun k hk=>?_⟩
 ·rw[hne _ (by omega)]
  apply h.1.r;rcases aaP hx with hx | rfl
  ·rcases aaP hx with hx | rfl
   ·exact hx
   ·exact aaN hj
  ·exact aaN hi
 ·rw[hne _ hk.2.2.1]
  exact h.2 k hk
theorem MatOK.set {i:Nat} {x:MR} (hok:MatOK N rows) (hi:rows[i]?=some x) {l:List aU} (hl:l.length=N+1) (hf:∀ f∈l,okF f):MatOK N (rows.set i (x.1,x.2.1,l)):=by
 obtain⟨hlt,hxi⟩:=List.getElem?_eq_some_iff.1 hi;refine⟨by rw[ZW];exact hok.len,?_,fun y hy=>?_⟩
 ·have:(rows.set i (x.1,x.2.1,l)).map (·.1)=rows.map (·.1):=by
   rw[aaU];apply aaR;intro j;rw[aaS]
   by_cases hij:i=j
   ·subst hij
    rw[if_pos rfl,ZK,if_pos hlt,ZP,hi];rfl
   ·rw[if_neg hij]
  rw[this];exact hok.nd
 ·rcases aaP hy with hy | rfl
  ·exact hok.row y hy
  ·exact⟨hl,hf⟩
theorem CP {α:Type} {l:List α} {i j:Nat} {a b:α} (hi:l[i]?=some a) (hj:l[j]?=some b) (h:l.Nodup):((l.set i b).set j a).Nodup:=by
 obtain⟨hil,hia⟩:=List.getElem?_eq_some_iff.1 hi;obtain⟨hjl,hjb⟩:=List.getElem?_eq_some_iff.1 hj
 have main:∀ p q,p<q→q<l.length→((l.set i b).set j a)[p]?≠((l.set i b).set j a)[q]?:=by
  intro p q hpq hq;rw[aaS,aaS,aaS,aaS];have inj:∀ p q,p<l.length→l[p]?=l[q]?→p=q:=fun p q hp he=>(aaT hp h).1 he
  simp only[ZW]
  by_cases h1:j=p
  ·subst h1
   have h2:¬ j=q:=by omega
   rw[if_pos rfl,if_pos hjl,if_neg h2]
   by_cases h3:i=q
   ·subst h3
    rw[if_pos rfl,if_pos hil];intro he;rw[←hi,←hj] at he;have:=inj _ _ hil he;omega
   ·rw[if_neg h3,←hi]
    intro he;exact h3 (inj _ _ hil he)
  ·rw[if_neg h1]
   by_cases h3:i=p
   ·subst h3
    rw[if_pos rfl,if_pos hil]
    by_cases h2:j=q
    ·subst h2
     rw[if_pos rfl,if_pos hjl,←hi,←hj];intro he;have:=inj _ _ hjl he;omega
    ·rw[if_neg h2,if_neg (by omega),←hj]
     intro he;exact h2 (inj _ _ hjl he)
   ·rw[if_neg h3]
    by_cases h2:j=q
    ·subst h2
     rw[if_pos rfl,if_pos hjl,←hi];intro he;exact h3 (inj _ _ hil he.symm)
    ·rw[if_neg h2]
     by_cases h4:i=q
     ·subst h4
      rw[if_pos rfl,if_pos hil,←hj];intro he;exact h1 (inj _ _ hjl he.symm)
     ·rw[if_neg h4]
      intro he;have:=inj _ _ (by omega) he;omega
 refine List.pairwise_iff_getElem.2 fun p q hp hq hpq he=>?_
 simp only[ZW] at hp hq;refine main p q hpq hq ?_;rw[ZG (by simpa using hp),ZG (by simpa using hq),he]
theorem MatOK.swap {i j:Nat} {a b:MR} (hok:MatOK N rows) (hi:rows[i]?=some a) (hj:rows[j]?=some b):MatOK N ((rows.set i b).set j a):=by
 refine⟨by rw[ZW,ZW];exact hok.len,?_,fun x hx=>?_⟩
 ·rw[aaU,aaU]
  exact CP (by rw[ZP,hi];rfl) (by rw[ZP,hj];rfl) hok.nd
 ·rcases aaP hx with hx | rfl
  ·rcases aaP hx with hx | rfl
   ·exact hok.row x hx
   ·exact hok.row _ (aaN hj)
  ·exact hok.row _ (aaN hi)
end
theorem SP {l:List aU} {i:Nat} {a b c d} (h:l[i]?=some ((a,b),(c,d))):cut (ay ad l) (i*4) 4=some [.dat (.int .i64 a),.dat (.sl (b.map aa)),.dat (.int .i64 c),.dat (.sl (d.map aa))]:=by
 have:=tl cH h (f:=0) (n:=4) (by omega);rw[Nat.add_zero] at this;rw[this]
 rfl
theorem S4 {N:Nat} {rows:List MR} {i:Nat} {x:MR} (h:rows[i]?=some x):cut (cb N rows) i 1=some [.ref (x.1+900000) x.2.1 4 0 (N+1)]:=by
 obtain⟨hlt,rfl⟩:=List.getElem?_eq_some_iff.1 h;unfold cut cb;rw[if_pos (by rw[ZK];omega),←List.map_drop,aad hlt]
 rfl
theorem HD {l m:List aU} (h:ay ad l=ay ad m):l=m:=tB cH eX _ _ h (by omega)
def ib (f:aU):Bool:=f.1.1==0
def cJ (x:MR) (c:Nat):aU:=x.2.2.getD c bz
def ct (rows:List MR) (r c:Nat):Nat:=r+(rows.drop r).findIdx fun x => !ib (cJ x c)
def cV (fac:aU):List aU→List aU→Bool→List aU × Bool
 | f::fs,p::ps,false=>((nv f (lX fac p).1).1::(cV fac fs ps ((lX fac p).2 != 0||(nv f (lX fac p).1).2 != 0)).1,(cV fac fs ps ((lX fac p).2 != 0||(nv f (lX fac p).1).2 != 0)).2)
 | fs,_,b=>(fs,b)
def bQ (prow:List aU) (r c:Nat):Nat→List MR→Bool→List MR × Bool
 | _,[],bad=>([],bad)
 | i,x::xs,bad=>if (i==r||ib (cJ x c))=true then (x::(bQ prow r c (i+1) xs bad).1,(bQ prow r c (i+1) xs bad).2) else
  ((x.1,x.2.1,(cV (cJ x c) x.2.2 prow bad).1)::(bQ prow r c (i+1) xs (cV (cJ x c) x.2.2 prow bad).2).1,(bQ prow r c (i+1) xs (cV (cJ x c) x.2.2 prow bad).2).2)
def cv (by':aU) (l:List aU):List aU × Bool:=(l.map fun f=>(iY f by').1,l.any fun f=>(iY f by').2 != 0)
def ff (rows:List MR) (i:Nat):MR:=rows.getD i (0,0,[])
def swapped (rows:List MR) (i j:Nat):List MR:=(rows.set i (ff rows j)).set j (ff rows i)
def divided (rows:List MR) (r c:Nat):List MR:=rows.set r ((ff rows r).1,(ff rows r).2.1,(cv (cJ (ff rows r) c) (ff rows r).2.2).1)
def gX (rows:List MR) (r c:Nat):Bool × List MR × Bool :=
 if ct rows r c=rows.length then (true,rows,false) else
  (false,bQ (cv (cJ (ff (swapped rows r (ct rows r c)) r) c) (ff (swapped rows r (ct rows r c)) r).2.2).1 r c 0 (divided (swapped rows r (ct rows r c)) r c)
   (cv (cJ (ff (swapped rows r (ct rows r c)) r) c) (ff (swapped rows r (ct rows r c)) r).2.2).2)
theorem zW {rows:List MR} {r c i:Nat} {x:MR} (hx:rows[i]?=some x) (hr:r≤i) (hz:∀ j y,r≤j→j<i→rows[j]?=some y→ib (cJ y c)=true) (h:ib (cJ x c)=false):ct rows r c=i:=by
 unfold ct;obtain⟨hlt,hxi⟩:=List.getElem?_eq_some_iff.1 hx
 have:(rows.drop r).findIdx (fun x => !ib (cJ x c))=i-r:=by
  rw[List.findIdx_eq (by rw[aaV];omega)];refine⟨?_,fun j hj=>?_⟩
  ·rw[aaW]
   have:rows[r+(i-r)]?=some x:=by rw[show r+(i-r)=i by omega];exact hx
   rw[(List.getElem?_eq_some_iff.1 this).2,h];rfl
  ·rw[aaW]
   have:=hz (r+j) _ (by omega) (by omega) (ZG (by omega));rw[this];rfl
 omega
theorem BZ {rows:List MR} {r c:Nat} (hr:r≤rows.length) (hz:∀ j y,r≤j→rows[j]?=some y→ib (cJ y c)=true):ct rows r c=rows.length:=by
 unfold ct
 have:(rows.drop r).findIdx (fun x => !ib (cJ x c))=(rows.drop r).length:=by
  rw[List.findIdx_eq_length];intro y hy;obtain⟨j,hj⟩:=List.mem_iff_getElem?.1 hy;rw[List.getElem?_drop] at hj;rw[hz (r+j) y (by omega) hj];rfl
 rw[this,aaV];omega
end Go.Mini
