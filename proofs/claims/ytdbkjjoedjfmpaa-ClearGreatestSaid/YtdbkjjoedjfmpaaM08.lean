/- A part of the proof. -/
import Derived.Test.YtdbkjjoedjfmpaaM07
import Derived.Test.YtdbkjjoedjfmpaaM04
import Derived.Test.YtdbkjjoedjfmpaaM06
set_option linter.unusedSimpArgs false
set_option linter.unusedVariables false
open List renaming getD_eq_getElem?_getD → YS, getElem?_eq_getElem → YT, getElem?_eq_none → YU, length_map → YX, replicate → YY, mem_replicate → Y0, getElem?_map → Y2, take_of_length_le → Y4, drop_set_of_lt → Y8, length_set → Y9, drop → Zm, map_cons → ZB, map_nil → ZC, drop_zero → ZF, drop_eq_getElem_cons → ZK, length_cons → ZL, length_singleton → ZM, length_nil → ZO, all_cons → ZT, append_nil → ZZ, take_length → Z0, length → Z1, length_append → Z2, append_assoc → Z5, take_add_one → aah, mem_of_getElem? → aai, mem_or_eq_of_mem_set → aak, ext_getElem? → aam, getElem?_set → aan, getElem?_inj → aao, map_set → aap, length_drop → aar, getElem_drop → aas, getElem?_drop → aat, take → aau, length_take → aav
open Prod renaming ext → YV, ext_iff → ZX
open Bool renaming false_eq_true → YW, and_true → ZP, true_and → ZQ, and_false → ZR, false_and → ZS, not_eq_true' → ZU, not_eq_false' → ZV, and_eq_true → ZW
open Nat renaming zero_le → YZ, lt_or_ge → Y3, max_eq_right → Y7, mul_one → Zj, le_refl → Zr, mul_le_mul_right → Zy, le_of_lt → Zz, mul_comm → ZA, mul_lt_mul_of_pos_left → ZD, reduceEqDiff → ZE, mod_lt → ZN, gcd → Z7, lt_of_le_of_lt → Z8, gcd_comm → Z9, pos_of_ne_zero → aaf, add_zero → aaq, sub_self → aaw
open Decidable renaming em → Y1
open Int renaming tdiv_eq_ediv_of_nonneg → Y5, mul_zero → Y6, mul_add → Zd, mul_assoc → Zg, add_comm → ZG, natCast_zero → ZH, cast_ofNat_Int → ZJ, sign_eq_neg_one_of_neg → ZY, tmod_nonneg → Z3, tdiv_nonneg → Z4, sign_eq_one_of_pos → Z6, sign_mul → aaa, natAbs_neg → aab, natAbs_natCast → aac, sign_sign → aad, mul_one → aae
open Option renaming bind_none → Zw, map_eq_some_iff → aaj
open Rat renaming divInt → aag
open Classical renaming choose_spec → aal
namespace Go.Mini
open Go
set_option maxRecDepth 10000
set_option maxHeartbeats 4000000
theorem Eg {b:List Int} {k:Nat} (h:k<b.length):b.getD k 0=b[k]:=by rw[YS,YT h];rfl
theorem uY {b:List Int} {k:Nat} (h:b.length≤k):b.getD k 0=0:=by rw[YS,YU h];rfl
noncomputable def qM:List Data→Option PRes:=FF (α:=Nat × Nat) (fun (x,y)=>([digs x,digs y]:List Data)) (fun (x,y)=>aI ((dg x).length≤10000∧(dg y).length≤10000) (.same (digs (x*y))))
theorem yE:∀ a b:Nat × Nat,(fun (x,y)=>([digs x,digs y]:List Data)) a=(fun (x,y)=>([digs x,digs y]:List Data)) b→a=b:=by
  rintro⟨x1,y1⟩ ⟨x2,y2⟩ h;simp only[List.cons.injEq,digs,Data.sl.injEq] at h;exact YV (eW (af ai _ _ h.1)) (eW (af ai _ _ h.2.1))
@[go_sem] theorem sd (x:Nat) (y:Nat) (hc:(dg x).length≤10000∧(dg y).length≤10000):qM [digs x,digs y]=some (.same (digs (x*y))):=(aX yE (x,y)).trans (al hc _)
theorem I3 (T:Tab) (aY:T bX=mkE mb) (bh:T cp=mkE kV) (x:Nat) (y:Nat) (hc:(dg x).length≤10000∧(dg y).length≤10000) :
  wp T mf_ref04_times.body (bF mf_ref04_times.res (.same (digs (x*y)))) ⟨ax [.dat (digs x),.dat (digs y)],emp⟩:=by
 refine ap ?_;simp only[mf_ref04_times];obtain⟨hx,hy⟩:=hc;have hdx:=eF x;have hdy:=eF y;have hvx:=fY x;have hvy:=fY y;generalize ha:dg x=a at *;generalize hb:dg y=b at *;have hw1:IntKind.i64.wrap ((a.length:Int)+(b.length:Int))=((a.length+b.length:Nat):Int):=by rw[an _ (by omega) (by omega)];rfl
 have hb1:8*(a.length+b.length)≤140737488355328:=by omega
 have hb2:a.length+b.length≤maxLen:=jq _ (by omega);have hbl:b.length≤1000000:=by omega
 simp only[go_sem,go_sem_proc,YW,aY,bh,digs,ha,hb,hw1,hb1,hb2,lM,YX]
 refine ae [0,1,5] [] (fun ((i,o):Nat × List Int) tm mem=>i≤a.length∧o.length=a.length+b.length∧isD o∧o.drop (i+b.length)=YY (o.length-(i+b.length)) 0∧vl o=vl (a.take i)*y∧tm 6 = .dat (.int .i64 (i:Nat))∧mem 186015=some (0,aA aa o))
  (fun (i,_)=>a.length-i) (0,YY (a.length+b.length) 0) (by
   have hz:∀ n,vl (YY n 0)=0:=by
    intro n
    induction n with
    | zero=>rfl
    | succ n ih=>rw[List.replicate_succ,gN,ih];rfl
   refine⟨YZ _,by simp,fun d hd=>by rw[Y0] at hd;omega,by simp,by rw[hz];simp [vl],?_,?_⟩<;>rfl) ?_
 intro vs ms hvs hms;simp only[go_sem,go_sem_proc,YW,aY,bh,digs,ha,hb,hw1,YX] at hvs hms;subst hvs hms;rintro⟨i,o⟩ tm mem hk-⟨hi,ho,hdo,hzr,hvi,h6,hm⟩;simp only[go_sem,go_sem_proc,YW,aY,bh,List.cons.injEq] at hk;obtain⟨h0,h1,h5⟩:=hk;rcases Y1 (i<a.length) with hlt | hge
 ·have hga:a[i]?=some a[i]:=YT hlt
  have hai:=dI hdx i hlt;have hts:=be a i hlt;generalize a[i]=xi at *;have hdec:decide ((i:Int)<(a.length:Int))=true:=decide_eq_true (by omega);have hwi:IntKind.i64.wrap ((i:Int)+1)=((i+1:Nat):Int):=by rw[an _ (by omega) (by omega)];rfl
  simp only[go_sem,go_sem_proc,YW,aY,bh,h0,h1,h5,h6,hga,hdec,aa,YX,Y2,List.cons.injEq]
  refine ae [0,1,5,6] [] (fun ((k,c,o):Nat × Int × List Int) tm mem=>k≤b.length+1∧(k=b.length+1→c=0)∧o.length=a.length+b.length∧isD o∧o.drop (i+max k b.length)=YY (o.length-(i+max k b.length)) 0∧0≤c∧c<1048576∧vl o+1048576^(i+k)*c=vl (a.take i)*y+1048576^i*(xi*vl (b.take k)) ∧
    tm 8 = .dat (.int .i64 (k:Nat))∧tm 7 = .dat (.int .i64 c)∧mem 186015=some (0,aA aa o))
   (fun (k,_)=>b.length+1-k) (0,0,o) (by refine⟨YZ _,by simp,ho,hdo,by rw[Nat.zero_max];exact hzr,by omega,by omega,by simp [vl,hvi],?_,?_,hm⟩<;>rfl) ?_
  intro vs ms hvs hms;simp only[go_sem,go_sem_proc,YW,aY,bh,h0,h1,h5,h6,aa,YX] at hvs hms;subst hvs hms;rintro⟨k,c,o⟩ tm mem hk-⟨hki,hkc,ho,hdo,hzr,hc0,hc1,hvi,h8,h7,hm⟩;simp only[go_sem,go_sem_proc,YW,aY,bh,List.cons.injEq] at hk;obtain⟨h0,h1,h5,h6⟩:=hk;have hw2:IntKind.i64.wrap ((k:Int)+1)=((k+1:Nat):Int):=by rw[an _ (by omega) (by omega)];rfl
  have hw3:IntKind.i64.wrap ((i:Int)+(k:Int))=((i+k:Nat):Int):=by rw[an _ (by omega) (by omega)];rfl
  by_cases hgo:k<b.length∨c>0
  ·have hkb:k≤b.length:=by
    rcases Y3 b.length k with h | h
    ·have:=hkc (by omega);omega
    ·exact h
   have hjo:i+k<o.length:=by omega
   have hoj:=dI hdo (i+k) hjo
   have hbk:0≤b.getD k 0∧b.getD k 0<1048576:=by
    rcases Y3 k b.length with h | h
    ·rw[Eg h];exact dI hdy k h
    ·rw[uY h];omega
   have hbt:vl (b.take (k+1))=vl (b.take k)+1048576^k*b.getD k 0:=by
    rcases Y3 k b.length with h | h
    ·rw[Eg h];exact be b k h
    ·rw[uY h,Y4 (by omega),Y4 (by omega)];simp
   have hmax:k<b.length∨(k=b.length∧o[i+k]=0):=by
    rcases Y3 k b.length with h | h
    ·exact .inl h
    ·refine .inr ⟨by omega,BJ hzr (by omega) hjo⟩
   have hdg:=r6 b k hbl;generalize b.getD k 0=bk at *;obtain⟨m1,m2,m3,m4⟩:=wB hoj hai hbk ⟨hc0,hc1⟩;have hw4:IntKind.i64.wrap (xi*bk)=xi*bk:=an _ (by omega) (by omega);have hw5:IntKind.i64.wrap (o[i+k]+xi*bk)=o[i+k]+xi*bk:=an _ (by omega) (by omega);have hw6:IntKind.i64.wrap (o[i+k]+xi*bk+c)=o[i+k]+xi*bk+c:=an _ (by omega) (by omega);have hq1:(o[i+k]+xi*bk+c).tmod 1048576=(o[i+k]+xi*bk+c) % 1048576:=Int.tmod_eq_emod_of_nonneg (by omega);have hq2:IntKind.i64.wrap ((o[i+k]+xi*bk+c).tdiv 1048576)=(o[i+k]+xi*bk+c) / 1048576:=by rw[Y5 (by omega)];exact an _ (by omega) (by omega)
   have hio':i+k+1≤(aA aa o).length:=by rw[fc];omega
   have hget:=qY o (i+k) hjo;have hfold:=fun d=>g8 o (i+k) d hjo
   have hjl:i+k<a.length+b.length:=by omega
   have hfin:∃ i':Nat × Int × List Int,b.length+1-i'.1<b.length+1-k∧i'.1≤b.length+1∧(i'.1=b.length+1→i'.2.1=0)∧i'.2.2.length=a.length+b.length∧isD i'.2.2∧i'.2.2.drop (i+max i'.1 b.length)=YY (i'.2.2.length-(i+max i'.1 b.length)) 0∧0≤i'.2.1∧i'.2.1<1048576∧vl i'.2.2+1048576^(i+i'.1)*i'.2.1=vl (a.take i)*y+1048576^i*(xi*vl (b.take i'.1)) ∧
     MV.dat (Data.int .i64 ((k+1:Nat):Int))=MV.dat (Data.int .i64 (i'.1:Nat))∧MV.dat (Data.int .i64 ((o[i+k]+xi*bk+c) / 1048576))=MV.dat (Data.int .i64 i'.2.1)∧some (0,aA aa (o.set (i+k) ((o[i+k]+xi*bk+c) % 1048576)))=some (0,aA aa i'.2.2):=by
    refine⟨(k+1,(o[i+k]+xi*bk+c) / 1048576,o.set (i+k) ((o[i+k]+xi*bk+c) % 1048576)),by dsimp only;omega,by dsimp only;omega,?_,by simp [ho],kh hdo _ (by omega),?_,m3,m4,?_,rfl,rfl,rfl⟩
    ·intro h
     dsimp only at h ⊢;rcases hmax with h2 | ⟨h2,h3⟩
     ·omega
     ·have hbk0:bk=0:=by
       have e:=hdg;rw[r6 b k hbl,uY (by omega)] at e
       simpa using e.symm
      rw[h3,hbk0,Y6];omega
    ·dsimp only
     rcases hmax with h2 | ⟨h2,h3⟩
     ·rw[Y7 (by omega)] at hzr
      rw[Y7 (by omega),Y8 (by omega),Y9,hzr]
     ·rw[Y7 (by omega),←h2] at hzr
      rw[Nat.max_eq_left (by omega)];exact tc hzr hjo
    ·dsimp only
     rw[CB _ _ _ hjo,hbt,←Nat.add_assoc,Int.pow_succ,Ap _ _ _ _ _ _ _ hvi];rw[Zd (xi),Zd (1048576^i),Int.pow_add]
     have:(1048576:Int)^i*(xi*(1048576^k*bk))=1048576^i*1048576^k*(xi*bk):=by
      rw[←Zg (xi),Int.mul_comm (xi) (1048576^k),Zg (1048576^k),←Zg]
     omega
   by_cases hkb':k<b.length
   ·have d1:decide ((k:Int)<(b.length:Int))=true:=decide_eq_true (by omega)
    simp only[go_sem,go_sem_proc,YW,aY,bh,h0,h1,h5,h6,h7,h8,hm,hga,hdg,d1,hw2,hw3,hw4,hw5,hw6,hq1,hq2,hjl,hio',hget,hfold,aa,Zj,YX,Y2,List.cons.injEq]
    repeat' (first|refine qS ?_ ?_|fail)<;>intro h<;>simp only[h,go_sem,go_sem_proc,YW,aY,bh,h0,h1,h5,h6,h7,h8,hm,hga,hdg,d1,hw2,hw3,hw4,hw5,hw6,hq1,hq2,hjl,hio',hget,hfold,aa,Zj,YX,Y2,List.cons.injEq]
    exact hfin
   ·have d1:decide ((k:Int)<(b.length:Int))=false:=decide_eq_false (by omega)
    have d2:decide (c>0)=true:=decide_eq_true (by omega);simp only[go_sem,go_sem_proc,YW,aY,bh,h0,h1,h5,h6,h7,h8,hm,hga,hdg,d1,d2,hw2,hw3,hw4,hw5,hw6,hq1,hq2,hjl,hio',hget,hfold,aa,Zj,YX,Y2,List.cons.injEq]
    repeat' (first|refine qS ?_ ?_|fail)<;>intro h<;>simp only[h,go_sem,go_sem_proc,YW,aY,bh,h0,h1,h5,h6,h7,h8,hm,hga,hdg,d1,d2,hw2,hw3,hw4,hw5,hw6,hq1,hq2,hjl,hio',hget,hfold,aa,Zj,YX,Y2,List.cons.injEq]
    exact hfin
  ·have d1:decide ((k:Int)<(b.length:Int))=false:=decide_eq_false (by omega)
   have d2:decide (c>0)=false:=decide_eq_false (by omega);have hc00:c=0:=by omega
   rw[hc00,Y6,Int.add_zero,show b.take k=b from Y4 (by omega),hvy] at hvi;simp only[go_sem,go_sem_proc,YW,aY,bh,h0,h1,h5,h6,h7,h8,hm,d1,d2,hwi,YX]
   repeat' (first|refine qS ?_ ?_|fail)<;>intro h<;>simp only[h,go_sem,go_sem_proc,YW,aY,bh,h0,h1,h5,h6,h7,h8,hm,d1,d2,hwi,YX]
   refine⟨(i+1,o),by dsimp only;omega,by dsimp only;omega,ho,hdo,?_,?_,rfl,rfl⟩
   ·dsimp only
    have h3:=congrArg (Zm (i+1+b.length-(i+max k b.length))) hzr;rw[List.drop_drop,List.drop_replicate] at h3;rw[show i+max k b.length+(i+1+b.length-(i+max k b.length))=i+1+b.length by omega] at h3
    rw[h3]
    congr 1
    omega
   ·dsimp only
    rw[hvi,hts,Int.add_mul,Zg]
 ·obtain rfl:i=a.length:=by omega
  have hdec:decide ((a.length:Int)<(a.length:Int))=false:=decide_eq_false (by omega);rw[Y4 (Zr _),hvx] at hvi;have hT:=im o (by omega);rw[l9 (n:=x*y) hdo (by rw[hvi];rfl)] at hT;have hL:=kj (dg (x*y));have hD:=eO (n:=5) bs hm;rw[ho] at hD;simp only[go_sem,go_sem_proc,YW,aY,bh,h0,h1,h5,h6,hm,hdec,hT,hL,hD,dz,Zw,digs,YX]
  repeat' (first|refine qS ?_ ?_|fail)<;>intro h<;>simp only[h,go_sem,go_sem_proc,YW,aY,bh,h0,h1,h5,h6,hm,hdec,hT,hL,hD,dz,Zw,digs,YX]
def MCode.sub2:MCode→List Nat→MCode
 | .seq a _,0::p=>a.sub2 p
 | .seq _ b,_::p=>b.sub2 p
 | .cond _ a _,0::p=>a.sub2 p
 | .cond _ _ b,_::p=>b.sub2 p
 | .block _ c,_::p=>c.sub2 p
 | .ghost _ c,_::p=>c.sub2 p
 | .loop c,_::p=>c.sub2 p
 | c,_=>c
theorem AE {n:Nat} (h:0<n) (h1:n<1048576):[(n:Int)]=dg n:=(ph h h1).symm
theorem It {n:Nat} (h1:n<1048576):cm [(n:Int)]=dg n:=l9 (by intro d hd;have:=List.mem_singleton.1 hd;omega) (by simp [vl])
theorem Gn {d:Int} {r:Nat} (h0:0≤d) (h1:d<1048576):cm (d::dg r)=dg (d.toNat+1048576*r):=l9 (isD_cons.2 ⟨⟨h0,h1⟩,eF r⟩) (by rw[gN,fY];omega)
theorem pf {n m k:Nat} (h:n<m*1048576) (hm:(dg m).length≤k):(dg n).length≤k+1:=by
 rw[dg_len] at *;rw[Nat.pow_succ];exact Nat.lt_of_lt_of_le h (Zy _ (Zz hm))
theorem EJ (T:Tab) (dp:T gy=mkE qM) (ew:T ju=mkE sL) {K:bM→St→Prop} {kk:List Todo} (y R:Nat) (hy:(dg y).length≤1000) (hR:(dg R).length≤1001) (hy0:0<y) (hRy:R<y*1048576) (v0 v6 v8:MV) (tm:Nat→MV) (m:Mem)
  (e0:tm 0=v0) (e1:tm 1 = .dat (.sl ((dg y).map aa))) (e6:tm 6=v6) (e7:tm 7 = .dat (.sl ((dg R).map aa))) (e8:tm 8=v8) (e9:tm 9 = .dat (.int .i64 0)) (e10:tm 10 = .dat (.int .i64 1048576))
  (hK:∀ tm',tm' 0=v0→tm' 1 = .dat (.sl ((dg y).map aa))→tm' 6=v6→tm' 7 = .dat (.sl ((dg R).map aa))→tm' 8=v8→tm' 9 = .dat (.int .i64 ((R / y:Nat):Int))→kont T K kk (.exit 2) ⟨tm',m⟩) :
  wp T (mf_ref04_over.body.sub2 [1,1,1,0,1,0,0,1,0,0,1,1,1,0,0]) (kont T K kk) ⟨tm,m⟩:=by
 simp only[mf_ref04_over,MCode.sub2];refine ae [0,1,6,7,8] [] (fun ((lo,hi):Nat × Nat) tm' m'=>lo<hi∧hi≤1048576∧lo*y≤R∧R<hi*y∧tm' 9 = .dat (.int .i64 lo)∧tm' 10 = .dat (.int .i64 hi)∧m'=m) (fun (lo,hi)=>hi-lo) (0,1048576) (by refine⟨by omega,by omega,by omega,by rw[ZA];exact hRy,e9,e10,rfl⟩) ?_;intro vs ms hvs hms;simp only[go_sem,go_sem_proc,YW,e0,e1,e6,e7,e8] at hvs hms;subst hvs hms;clear e0 e1 e6 e7 e8 e9 e10;rintro⟨lo,hi⟩ tm m' hk hm ⟨hlh,hh,hlo,hhi,h9,h10,rfl⟩;simp only[go_sem,go_sem_proc,YW,List.cons.injEq] at hk hm;obtain⟨h0,h1,h6,h7,h8⟩:=hk;have w1:IntKind.i64.wrap ((hi:Int)-(lo:Int))=(hi:Int)-(lo:Int):=an _ (by omega) (by omega)
 by_cases hgo:hi-lo>1
 ·have d1:decide ((hi:Int)-(lo:Int)>1)=true:=decide_eq_true (by omega)
  have w2:IntKind.i64.wrap ((lo:Int)+(hi:Int))=((lo+hi:Nat):Int):=by rw[an _ (by omega) (by omega)];omega
  have w3:IntKind.i64.wrap (((lo+hi:Nat):Int).tdiv 2)=(((lo+hi) / 2:Nat):Int):=by rw[Y5 (by omega),an _ (by omega) (by omega)];omega
  obtain⟨mid,hmid⟩:∃ mid:Nat,mid=(lo+hi) / 2:=⟨_,rfl⟩;rw[←hmid] at w3;have hT:=sd y mid ⟨by omega,by rw[←AE (n:=mid) (by omega) (by omega)];simp⟩
  simp only[digs] at hT;rw[←AE (n:=mid) (by omega) (by omega)] at hT;simp only[ZB,ZC,aa] at hT;have hml:(dg (y*mid)).length≤1001:=pf (ZD (show mid<1048576 by omega) hy0) hy;have hL:=CW R (y*mid) ⟨by omega,by omega⟩
  simp only[digs] at hL;rcases hd:decide (R<y*mid)
  ·have hn:=of_decide_eq_false hd
   rw[hd] at hL;refine qI ?_
   repeat' (intro h<;>simp only[h,go_sem,go_sem_proc,YW,dp,ew,h0,h1,h6,h7,h8,h9,h10,w1,w2,w3,d1,hT,hL]<;>try refine qS ?_ ?_)
   exact⟨(mid,hi),by dsimp only;omega,by dsimp only;omega,hh,by dsimp only;rw[ZA];omega,hhi,rfl,rfl⟩
  ·have hn:=of_decide_eq_true hd
   rw[hd] at hL;refine qI ?_
   repeat' (intro h<;>simp only[h,go_sem,go_sem_proc,YW,dp,ew,h0,h1,h6,h7,h8,h9,h10,w1,w2,w3,d1,hT,hL]<;>try refine qS ?_ ?_)
   exact⟨(lo,mid),by dsimp only;omega,by dsimp only;omega,by dsimp only;omega,hlo,by dsimp only;rw[ZA];omega,rfl,rfl⟩
 ·have d1:decide ((hi:Int)-(lo:Int)>1)=false:=decide_eq_false (by omega)
  have hq:R / y=lo:=by
   have h1:hi=lo+1:=by omega
   subst h1;exact Nat.div_eq_of_lt_le hlo hhi
  refine qI ?_
  repeat' (intro h<;>simp only[h,go_sem,go_sem_proc,YW,h0,h1,h6,h7,h8,h9,h10,w1,d1]<;>try refine qS ?_ ?_)
  refine hK _ ?_ ?_ ?_ ?_ ?_ ?_<;>simp only[aU,ZE,if_false,h0,h1,h6,h7,h8,h9,hq]
noncomputable def sO:List Data→Option PRes:=FF (α:=Nat × Nat) (fun (x,y)=>([digs x,digs y]:List Data)) (fun (x,y)=>aI ((dg x).length≤1000∧(dg y).length≤1000∧0<y) (.same (.tup [digs (x / y),digs (x % y)])))
theorem AA:∀ a b:Nat × Nat,(fun (x,y)=>([digs x,digs y]:List Data)) a=(fun (x,y)=>([digs x,digs y]:List Data)) b→a=b:=by
  rintro⟨x1,y1⟩ ⟨x2,y2⟩ h;simp only[List.cons.injEq,digs,Data.sl.injEq] at h;exact YV (eW (af ai _ _ h.1)) (eW (af ai _ _ h.2.1))
@[go_sem] theorem uC (x:Nat) (y:Nat) (hc:(dg x).length≤1000∧(dg y).length≤1000∧0<y):sO [digs x,digs y]=some (.same (.tup [digs (x / y),digs (x % y)])):=(aX AA (x,y)).trans (al hc _)
theorem L8 (T:Tab) (bh:T cp=mkE kV) (dp:T gy=mkE qM) (ew:T ju=mkE sL) (ca:T gq=mkE qE) (x:Nat) (y:Nat) (hc:(dg x).length≤1000∧(dg y).length≤1000∧0<y) :
  wp T mf_ref04_over.body (bF mf_ref04_over.res (.same (.tup [digs (x / y),digs (x % y)]))) ⟨ax [.dat (digs x),.dat (digs y)],emp⟩:=by
 refine ap ?_;simp only[mf_ref04_over];obtain⟨hx,hy,hy0⟩:=hc;have hdx:=eF x;have hvx:=fY x;generalize ha:dg x=a at *;have hb1:8*a.length≤140737488355328:=by omega
 have hb2:a.length≤maxLen:=jq _ (by omega);have hw0:IntKind.i64.wrap ((a.length:Int)-1)=(a.length:Int)-1:=an _ (by omega) (by omega);simp only[go_sem,go_sem_proc,YW,bh,dp,ew,ca,digs,ha,hb1,hb2,lM,hw0,YX]
 refine ae [0,1,6] [] (fun ((n,r,rv,o):Nat × Nat × MV × List Int) tm mem=>n≤a.length∧o.length=a.length∧isD o∧r<y∧vl (a.drop n)=y*vl (o.drop n)+r∧(rv = .nil∧r=0∨rv = .dat (digs r))∧tm 8 = .dat (.int .i64 ((n:Nat)-1))∧tm 7=rv∧mem 180014=some (0,aA aa o))
  (fun (n,_)=>n) (a.length,0,.nil,YY a.length 0) (by
   refine⟨Zr _,by simp,fun d hd=>by rw[Y0] at hd;omega,hy0,by simp [vl],.inl ⟨rfl,rfl⟩,rfl,rfl,rfl⟩) ?_
 intro vs ms hvs hms;simp only[go_sem,go_sem_proc,YW,bh,dp,ew,ca,digs,ha,YX] at hvs hms;subst hvs hms;rintro⟨n,r,rv,o⟩ tm mem hk-⟨hn,ho,hdo,hr1,hv,hrv,h8,h7,hm⟩;simp only[go_sem,go_sem_proc,YW,bh,dp,ew,ca,List.cons.injEq] at hk;obtain⟨h0,h1,h6⟩:=hk;rcases n with _ | n
 ·have hq:vl o=((x / y:Nat):Int)∧r=x % y:=by
   rw[ZF,ZF,hvx] at hv;have e1:(x:Int) / (y:Int)=vl o:=by rw[hv,ZG,Int.add_mul_ediv_left _ _ (by omega),Int.ediv_eq_zero_of_lt (by omega) (by omega)];omega
   have e2:(x:Int) % (y:Int)=r:=by rw[hv,ZG,Int.add_mul_emod_self_left,Int.emod_eq_of_lt (by omega) (by omega)]
   refine⟨by rw[←e1];rfl,by omega⟩
  have hT:=im o (by omega);rw[l9 (n:=x / y) hdo hq.1] at hT;have hL:=kj (dg (x / y));have hD:=eO (n:=5) bs hm;rw[ho] at hD;rcases hrv with ⟨rfl,hr0⟩ | rfl
  ·have hz:dg (x % y)=[]:=by rw[←hq.2,hr0];rfl
   simp only[go_sem,go_sem_proc,YW,bh,dp,ew,ca,h0,h1,h6,h7,h8,hm,hT,hL,hD,hz,dz,Zw,digs,ZH,ZJ,show ¬ ((0:Int)-1≥0) by omega,decide_false,YX,ZC]
   repeat' (first|refine qS ?_ ?_|fail)<;>intro h<;>simp only[h,go_sem,go_sem_proc,YW,bh,dp,ew,ca,h0,h1,h6,h7,h8,hm,hT,hL,hD,hz,dz,Zw,digs,ZH,ZJ,show ¬ ((0:Int)-1≥0) by omega,decide_false,YX,ZC]
  ·simp only[go_sem,go_sem_proc,YW,bh,dp,ew,ca,h0,h1,h6,h7,h8,hm,hT,hL,hD,dz,Zw,digs,ZH,ZJ,show ¬ ((0:Int)-1≥0) by omega,decide_false,YX,ZC,hq.2]
   repeat' (first|refine qS ?_ ?_|fail)<;>intro h<;>simp only[h,go_sem,go_sem_proc,YW,bh,dp,ew,ca,h0,h1,h6,h7,h8,hm,hT,hL,hD,dz,Zw,digs,ZH,ZJ,show ¬ ((0:Int)-1≥0) by omega,decide_false,YX,ZC,hq.2]
 ·have hga:a[n]?=some a[n]:=YT (by omega)
  have han:=dI hdx n (by omega);have hda:a.drop n=a[n]::a.drop (n+1):=ZK (by omega);have hno:n<o.length:=by omega
  have hdo':∀ e:Int,(o.set n e).drop n=e::o.drop (n+1):=fun e=>by
   rw[ZK (by simpa using hno),List.getElem_set_self,Y8 (by omega)]
  generalize a[n]=d at *;have hw:((n+1:Nat):Int)-1=(n:Int):=by omega
  have hge:decide ((n:Int)≥0)=true:=decide_eq_true (by omega);have hw4:IntKind.i64.wrap ((n:Int)-1)=(n:Int)-1:=an _ (by omega) (by omega);have hrl:(dg r).length≤1000:=by rw[dg_len] at *;omega
  obtain⟨R,hR⟩:∃ R:Nat,R=d.toNat+1048576*r:=⟨_,rfl⟩
  have hRlt:R<y*1048576:=by
   have:(r+1)*1048576≤y*1048576:=Zy _ hr1;omega
  have hRl:=pf hRlt hy;have hct:=Gn (d:=d) (r:=r) han.1 han.2;rw[←hR] at hct;have hT:=im (d::dg r) (by rw[ZL];omega);rw[hct] at hT;simp only[ZB,aa] at hT;have hL:=kj (dg R)
  have happ:∀ G:Nat,kT 180026 G 1 1 8 (dg r).length (((dg r).map aa).flatten.map .dat) (some (G,[.dat (.int .i64 d)]))=some (.ref 180026 (G+1) 1 0 (1+(dg r).length),some (180026,G+1,aA aa (d::dg r))):=fun G=>by
   have:=nA bs gX 180026 G 8 [d] (dg r) (by rw[ZM];omega) (by rw[ZM];omega);exact this
  have hDr:∀ (G:Nat) (m:Mem),m 180026=some (G,aA aa (d::dg r))→toD 6 m (.ref 180026 G 1 0 (1+(dg r).length))=some (.sl ((d::dg r).map aa)):=fun G m hm=>by
   have:=eO (n:=5) bs hm;rw[ZL,Nat.add_comm (dg r).length 1] at this;exact this
  have hev:(((dg r).map aa).all fun e=>e.length==1)=true:=uo _;have hDr':=hDr (cN (mem 180026)+1) (az (az mem 180026 (cN (mem 180026)) [MV.dat (.int .i64 d)]) 180026 (cN (mem 180026)+1) (aA aa (d::dg r))) (by simp [az]);have hnl:n<a.length:=by omega
  obtain⟨lo,hlo⟩:∃ lo:Nat,lo=R / y:=⟨_,rfl⟩;have hlob:lo<1048576:=by rw[hlo];exact Nat.div_lt_of_lt_mul hRlt
  have hdm:=Nat.div_add_mod R y;have hml:=ZN R hy0;rw[←hlo] at hdm;have hmod:R-y*lo=R % y:=by omega
  have hmll:(dg (y*lo)).length≤1001:=pf (ZD hlob hy0) hy
  have hT2:kV [.sl [[.int .i64 ((R / y:Nat):Int)]]]=some (.own 1 ((dg lo).map aa)):=by
   have h:=im [((R / y:Nat):Int)] (by simp);rw[←hlo,It hlob] at h;rw[←hlo];exact h
  have hT3:=sd y lo ⟨by omega,by have:(dg lo).length≤1:=dg_len.2 (by rw[Nat.pow_one];exact hlob);omega⟩
  simp only[digs] at hT3;have hT4:=r9 R (y*lo) ⟨by omega,by omega,by omega⟩
  rw[hmod] at hT4;simp only[digs] at hT4;have hio':n+1≤(aA aa o).length:=by rw[fc];omega
  have hfold:=g8 o n ((R / y:Nat):Int) hno
  have hfin:∃ i':Nat × Nat × MV × List Int,i'.1<n+1∧i'.1≤a.length∧i'.2.2.2.length=a.length∧isD i'.2.2.2∧i'.2.1<y∧vl (a.drop i'.1)=y*vl (i'.2.2.2.drop i'.1)+i'.2.1∧(i'.2.2.1 = .nil∧i'.2.1=0∨i'.2.2.1 = .dat (.sl ((dg i'.2.1).map aa)))∧MV.dat (Data.int .i64 ((n:Int)-1))=MV.dat (Data.int .i64 ((i'.1:Int)-1))∧MV.dat (Data.sl ((dg (R % y)).map aa))=i'.2.2.1∧some (0,aA aa (o.set n ((R / y:Nat):Int)))=some (0,aA aa i'.2.2.2):=by
   refine⟨(n,R % y,.dat (digs (R % y)),o.set n ((R / y:Nat):Int)),by dsimp only;omega,by dsimp only;omega,by simp [ho],kh hdo n (by omega),hml,?_,.inr rfl,rfl,rfl,rfl⟩
   dsimp only;rw[hda,gN,hv,hdo',gN,←hlo];have e1:(R:Int)=d+1048576*r:=by omega
   have e2:(y:Int)*lo+(R % y:Nat)=R:=by exact_mod_cast hdm
   have e3:∀ v:Int,(y:Int)*(lo+1048576*v)=y*lo+1048576*(y*v):=fun v=>by rw[Zd,Int.mul_left_comm]
   rw[e3];omega
  have main:rv = .nil∧r=0∨rv = .dat (digs r):=hrv;rcases main with ⟨rfl,hr0⟩ | rfl
  ·subst hr0
   have happ0:=happ;simp only[fW,ZC,List.flatten_nil,ZO] at happ0;simp only[fW,ZO] at hDr';simp only[fW,ZC] at hT;simp only[go_sem,go_sem_proc,YW,bh,dp,ew,ca,h0,h1,h6,h7,h8,hm,hga,hw,hge,happ0,hT,hL,hDr',dz,Zw,aa,fW,YX,Y2,ZC];refine EJ T dp ew y R hy hRl hy0 hRlt (.dat (.sl (a.map aa))) (.ref 180014 0 1 0 a.length) (.dat (.int .i64 n)) _ _ ?_ ?_ ?_ ?_ ?_ ?_ ?_ ?_
   ·exact h0
   ·exact h1
   ·exact h6
   ·rfl
   ·simp only[aU,ZE,if_false,h8,hw]
   ·rfl
   ·rfl
   intro tm' k0 k1 k6 k7 k8 k9;simp only[go_sem,go_sem_proc,YW,bh,dp,ew,ca,k0,k1,k6,k7,k8,k9,hm,hnl,hio',hfold,hT2,hT3,hT4,hw4,Zj]
   repeat' (first|refine qS ?_ ?_|fail)<;>intro h<;>simp only[h,go_sem,go_sem_proc,YW,bh,dp,ew,ca,k0,k1,k6,k7,k8,k9,hm,hnl,hio',hfold,hT2,hT3,hT4,hw4,Zj]
   exact hfin
  ·simp only[go_sem,go_sem_proc,YW,bh,dp,ew,ca,h0,h1,h6,h7,h8,hm,hga,hw,hge,happ,hev,hT,hL,hDr',dz,Zw,digs,aa,YX,Y2]
   refine EJ T dp ew y R hy hRl hy0 hRlt (.dat (.sl (a.map aa))) (.ref 180014 0 1 0 a.length) (.dat (.int .i64 n)) _ _ ?_ ?_ ?_ ?_ ?_ ?_ ?_ ?_
   ·exact h0
   ·exact h1
   ·exact h6
   ·rfl
   ·simp only[aU,ZE,if_false,h8,hw]
   ·rfl
   ·rfl
   intro tm' k0 k1 k6 k7 k8 k9;simp only[go_sem,go_sem_proc,YW,bh,dp,ew,ca,k0,k1,k6,k7,k8,k9,hm,hnl,hio',hfold,hT2,hT3,hT4,hw4,Zj]
   repeat' (first|refine qS ?_ ?_|fail)<;>intro h<;>simp only[h,go_sem,go_sem_proc,YW,bh,dp,ew,ca,k0,k1,k6,k7,k8,k9,hm,hnl,hio',hfold,hT2,hT3,hT4,hw4,Zj]
   exact hfin
noncomputable def oJ:List Data→Option PRes:=FF (α:=Int × (List Int)) (fun (s,l)=>([.int .i64 s,.sl (l.map aa)]:List Data)) (fun (s,l)=>aI (l.length≤1000000) (.same (.agg (bD (fb s l)))))
theorem zV:∀ a b:Int × (List Int),(fun (s,l)=>([.int .i64 s,.sl (l.map aa)]:List Data)) a=(fun (s,l)=>([.int .i64 s,.sl (l.map aa)]:List Data)) b→a=b:=by
  rintro⟨s1,l1⟩ ⟨s2,l2⟩ h;simp only[List.cons.injEq,Data.int.injEq,Data.sl.injEq] at h;exact YV h.1.2 (af ai _ _ h.2.1)
@[go_sem] theorem NQ (s:Int) (l:List Int) (hc:l.length≤1000000):oJ [.int .i64 s,.sl (l.map aa)]=some (.same (.agg (bD (fb s l)))):=(aX zV (s,l)).trans (al hc _)
theorem Mt (T:Tab) (bh:T cp=mkE kV) (s:Int) (l:List Int) (hc:l.length≤1000000) :
  wp T mf_ref04_made.body (bF mf_ref04_made.res (.same (.agg (bD (fb s l))))) ⟨ax [.dat (.int .i64 s),.dat (.sl (l.map aa))],emp⟩:=by
 refine ap ?_;simp only[mf_ref04_made];have hT:=im l hc;have hL:=kj (cm l);refine qI ?_
 repeat' (intro h<;>simp only[h,go_sem,go_sem_proc,YW,bh,hT,hL,YX]<;>try refine qS ?_ ?_)
 all_goals simp only[fb,bD,ZC, *,reduceIte,Bool.not_true,Bool.not_false,Bool.or_true,Bool.true_or,Bool.or_false,Bool.false_or,ZP,ZQ,ZR,ZS,YW,beq_self_eq_true,bne]
noncomputable def l8:List Data→Option PRes:=FF (α:=Int × (List Int)) (fun (s,l)=>([.agg [.int .i64 s,.sl (l.map aa)]]:List Data)) (fun (s,l)=>aI (l.length≤1000000) (.same (.bool (aJ (s,l)))))
theorem xY:∀ a b:Int × (List Int),(fun (s,l)=>([.agg [.int .i64 s,.sl (l.map aa)]]:List Data)) a=(fun (s,l)=>([.agg [.int .i64 s,.sl (l.map aa)]]:List Data)) b→a=b:=by
  rintro⟨s1,l1⟩ ⟨s2,l2⟩ h;simp only[List.cons.injEq,Data.agg.injEq,Data.int.injEq,Data.sl.injEq] at h;exact YV h.1.1.2 (af ai _ _ h.1.2.1)
@[go_sem] theorem MO (s:Int) (l:List Int) (hc:l.length≤1000000):l8 [.agg [.int .i64 s,.sl (l.map aa)]]=some (.same (.bool (aJ (s,l)))):=(aX xY (s,l)).trans (al hc _)
theorem JY (T:Tab)  (s:Int) (l:List Int) (hc:l.length≤1000000) :
  wp T mf_ref04_Right.body (bF mf_ref04_Right.res (.same (.bool (aJ (s,l))))) ⟨ax [.dat (.agg [.int .i64 s,.sl (l.map aa)])],emp⟩:=by
 refine ap ?_;simp only[mf_ref04_Right];simp only[go_sem,go_sem_proc,YW,YX];refine ae [1] [162001] (fun (i:Nat) tm mem=>i≤l.length∧l.all lU=(l.drop i).all lU∧tm 3 = .dat (.int .i64 i)) (fun i=>l.length-i) 0 (by refine⟨by omega,by simp,rfl⟩) ?_;intro vs ms hvs hms;simp only[go_sem,go_sem_proc,YW,YX] at hvs hms;subst hvs hms;rintro i tm mem hk hm ⟨hi,hf,h3⟩;simp only[go_sem,go_sem_proc,YW,List.cons.injEq] at hk hm;have h1:=hk;rcases Y1 (i<l.length) with hlt | hge
 ·have hd:l.drop i=l[i]::l.drop (i+1):=ZK hlt
  have hx:l[i]?=some l[i]:=YT hlt;generalize l[i]=x at *;have d1:decide ((i:Int)<(l.length:Int))=true:=decide_eq_true (by omega)
  have hfin:∀ b,lU x=true→b=(l.drop (i+1)).all lU→l.all lU=b:=by
   intro b h1 h2;rw[hf,hd,ZT,h1,h2,ZQ]
  have hbad:¬ lU x=true→aJ (s,l)=false:=by
   intro h1;rw[Bool.not_eq_true] at h1;unfold aJ;rw[hf,hd,ZT,h1]
   rfl
  have w3:IntKind.i64.wrap ((i:Int)+1)=((i+1:Nat):Int):=by rw[an _ (by omega) (by omega)];omega
  simp only[go_sem,go_sem_proc,YW,h1,h3,hm,hx,d1,w3,aa,YX,Y2,List.cons.injEq]
  repeat' (first|refine qS ?_ ?_|fail)<;>intro h<;>simp only[h,go_sem,go_sem_proc,YW,h1,h3,hm,hx,d1,w3,aa,YX,Y2,List.cons.injEq]
  ·rw[hbad fun h=>by have:=(nS x).1 h;(simp only[Option.some.injEq,Data.bool.injEq,Data.int.injEq,true_and,decide_eq_true_eq,decide_eq_false_iff_not,YW,beq_iff_eq,beq_eq_false_iff_ne,ne_eq] at*<;> omega)]
  ·exact⟨i+1,by omega,by omega,hfin _ ((nS x).2 (by (simp only[Option.some.injEq,Data.bool.injEq,Data.int.injEq,true_and,decide_eq_true_eq,decide_eq_false_iff_not,YW,beq_iff_eq,beq_eq_false_iff_ne,ne_eq] at*<;> omega))) rfl,rfl⟩
  ·rw[hbad fun h=>by have:=(nS x).1 h;(simp only[Option.some.injEq,Data.bool.injEq,Data.int.injEq,true_and,decide_eq_true_eq,decide_eq_false_iff_not,YW,beq_iff_eq,beq_eq_false_iff_ne,ne_eq] at*<;> omega)]
 ·have he:l.drop i=[]:=List.drop_eq_nil_of_le (by omega)
  rw[he] at hf;have hall:l.all lU=true:=by rw[hf];rfl
  have d1:decide ((i:Int)<(l.length:Int))=false:=decide_eq_false (by omega);rcases List.eq_nil_or_concat l with rfl | ⟨r,x,rfl⟩
  ·have d2:decide ((i:Int)<0)=false:=d1
   simp only[go_sem,go_sem_proc,YW,h1,h3,hm,d2,ZO,ZH,ZJ,beq_self_eq_true,ZC,bne]
   repeat' (first|refine qS ?_ ?_|fail)<;>intro h<;>simp only[h,go_sem,go_sem_proc,YW,h1,h3,hm,d2,ZO,ZH,ZJ,beq_self_eq_true,ZC,bne]
   all_goals (refine congrArg (fun b=>some (Data.bool b)) ?_;unfold aJ;simp;try simp only[decide_eq_true_eq,decide_eq_false_iff_not,beq_iff_eq,beq_eq_false_iff_ne,ZU,ZV,beq_eq_false_iff_ne,ne_eq] at *;omega)
  ·rw[List.concat_eq_append] at *
   have hne:(((r++[x]).length:Int)==0)=false:=by simp;omega
   have hw:IntKind.i64.wrap (((r++[x]).length:Int)-1)=(r.length:Int):=by
    have hl2:(r++[x]).length=r.length+1:=by simp
    rw[an _ (by omega) (by omega)];omega
   have hg:((r++[x]).map aa)[r.length]?=some [.int .i64 x]:=by simp [aa]
   have hr:aJ (s,r++[x])=((s==1||s == -1)&&decide (((r++[x]).length:Int)≤60)&&(x != 0)):=by
    unfold aJ;rw[hall];simp only[List.getLast?_append,List.getLast?_singleton];simp;have e1:decide (r.length≤59)=decide ((r.length:Int)+1≤60):=decide_eq_decide.2 (by omega);have e2:(some x != some (0:Int))=(x != 0):=by simp [bne]
    rw[e1,e2]
   rw[hr];simp only[go_sem,go_sem_proc,YW,h1,h3,hm,d1,hne,hw,hg,YX]
   repeat' (first|refine qS ?_ ?_|fail)<;>intro h<;>simp only[h,go_sem,go_sem_proc,YW,h1,h3,hm,d1,hne,hw,hg,YX]
   all_goals (refine congrArg (fun b=>some (Data.bool b)) ?_;clear hf hall hr hg hw hk hm h1 h3 d1;rw[Bool.eq_iff_iff];simp only[ZW,Bool.or_eq_true,decide_eq_true_eq,decide_eq_false_iff_not,beq_iff_eq,beq_eq_false_iff_ne,ZU,ZV,ne_eq,YW,false_iff,true_iff] at *;omega)
noncomputable def Cd:List Data→Option PRes:=FF (α:=Int × (List Int)) (fun (s,l)=>([.agg [.int .i64 s,.sl (l.map aa)]]:List Data)) (fun (s,l)=>aI (l.length≤1000000) (.same (.agg (bD (iT (s,l))))))
theorem Ct:∀ a b:Int × (List Int),(fun (s,l)=>([.agg [.int .i64 s,.sl (l.map aa)]]:List Data)) a=(fun (s,l)=>([.agg [.int .i64 s,.sl (l.map aa)]]:List Data)) b→a=b:=by
  rintro⟨s1,l1⟩ ⟨s2,l2⟩ h;simp only[List.cons.injEq,Data.agg.injEq,Data.int.injEq,Data.sl.injEq] at h;exact YV h.1.1.2 (af ai _ _ h.1.2.1)
@[go_sem] theorem Pg (s:Int) (l:List Int) (hc:l.length≤1000000):Cd [.agg [.int .i64 s,.sl (l.map aa)]]=some (.same (.agg (bD (iT (s,l))))):=(aX Ct (s,l)).trans (al hc _)
theorem NA (T:Tab) (bP:T ck=mkE l8) (bt:T cB=mkE oJ) (s:Int) (l:List Int) (hc:l.length≤1000000) :
  wp T mf_ref04_Neg.body (bF mf_ref04_Neg.res (.same (.agg (bD (iT (s,l)))))) ⟨ax [.dat (.agg [.int .i64 s,.sl (l.map aa)])],emp⟩:=by
 refine ap ?_;simp only[mf_ref04_Neg]
 by_cases hr:aJ (s,l)=true
 ·obtain⟨z,hz,e⟩:=(bj _).1 hr
  have e1:iT (s,l)=aR (-z):=by unfold iT;rw[if_pos hr,e,aS]
  cases e
  have hw:IntKind.i64.wrap (0-z.sign) = -z.sign:=by
   have:=Int.sign_trichotomy z;rw[an _ (by omega) (by omega)];omega
  rw[e1];refine qI ?_
  repeat' (intro h<;>simp only[h,go_sem,go_sem_proc,YW,bP,bt,hr,hc,hw,r5,bD]<;>try refine qS ?_ ?_)
 ·have hr:aJ (s,l)=false:=by simpa using hr
  have e1:iT (s,l)=(0,[]):=by unfold iT;rw[hr];rfl
  rw[e1];refine qI ?_
  repeat' (intro h<;>simp only[h,go_sem,go_sem_proc,YW,bP,bt,hr,hc,bD,ZC]<;>try refine qS ?_ ?_)
theorem Am (n:Int):(n.tmod 1048576).natAbs=n.natAbs % 1048576:=by rw[Int.natAbs_tmod];rfl
theorem AJ (n:Int):(n.tdiv 1048576).natAbs=n.natAbs / 1048576:=by rw[Int.natAbs_tdiv];rfl
noncomputable def In:List Data→Option PRes:=FF (α:=Int) (fun (n:Int)=>([.int .i64 n]:List Data)) (fun (n:Int)=>aI (cn n) (.same (.agg (bD (aR n)))))
theorem Gv:∀ a b:Int,(fun (n:Int)=>([.int .i64 n]:List Data)) a=(fun (n:Int)=>([.int .i64 n]:List Data)) b→a=b:=by
  intro n1 n2 h;simp only[List.cons.injEq,Data.int.injEq,Data.agg.injEq,Data.sl.injEq,Data.bool.injEq,Data.str.injEq,Data.ptr.injEq,Data.tup.injEq,Prod.mk.injEq,true_and,and_true] at h ⊢
  first | exact h | simpa [ZX,and_assoc] using h | grind
@[go_sem] theorem PQ (n:Int) (hc:cn n):In [.int .i64 n]=some (.same (.agg (bD (aR n)))):=(aX Gv n).trans (al hc _)
theorem Qy (T:Tab) (bt:T cB=mkE oJ) (n:Int) (hc:cn n) :
  wp T mf_ref04_Of.body (bF mf_ref04_Of.res (.same (.agg (bD (aR n))))) ⟨ax [.dat (.int .i64 n)],emp⟩:=by
 refine ap ?_;simp only[mf_ref04_Of];have hc':=hc;unfold cn at hc';obtain⟨hn1,hn2⟩:=hc';have hlen:(dg n.natAbs).length≤60:=dg_len.2 (jx hc);rcases Y1 (n=0) with rfl | hn0
 ·simp only[go_sem,go_sem_proc,YW,bt,bD,beq_self_eq_true]
  repeat' (first|refine qS ?_ ?_|fail)<;>intro h<;>simp only[h,go_sem,go_sem_proc,YW,bt,bD,beq_self_eq_true]
  rfl
 have hne:(n==0)=false:=by simpa using hn0
 have hs:∀ s:Int,s=n.sign→fb s (dg n.natAbs)=aR n:=fun s h=>cX rfl fun _=>h
 have hlen':(dg n.natAbs).length≤1000000:=by omega
 rcases Y1 (n<0) with hneg | hpos
 ·have hsn:=hs (-1) (ZY hneg).symm
  simp only[go_sem,go_sem_proc,YW,bt,hne,hneg,decide_true];refine ae [2,3] [144002] (fun ((u,g,l):Int × Nat × List Int) tm mem=>u≤0∧n≤u∧dg n.natAbs=l++dg u.natAbs∧tm 0 = .dat (.int .i64 u)∧tm 4 = .ref 144022 g 1 0 l.length∧mem 144022=some (g,aA aa l)) (fun (u,_)=>u.natAbs) (n,0,[]) (by refine⟨by omega,by omega,rfl,rfl,rfl,rfl⟩) ?_;intro vs ms hvs hms;simp only[go_sem,go_sem_proc,YW,bt,hneg,decide_true] at hvs hms;subst hvs hms;rintro⟨u,g,l⟩ tm mem hk hm ⟨hu,hnu,hd,h0,h4,hm22⟩;simp only[go_sem,go_sem_proc,YW,bt,List.cons.injEq] at hk hm;obtain⟨h2,h3⟩:=hk;rcases Y1 (u=0) with rfl | hu0
  ·rw[show (0:Int).natAbs=0 from rfl,fW,ZZ] at hd
   rw[hd] at hsn hlen';simp only[go_sem,go_sem_proc,YW,bt,h0,h2,h3,h4,hm,hm22,hsn,hlen',cy bs,Z0,bD,YX,beq_self_eq_true]
   repeat' (first|refine qS ?_ ?_|fail)<;>intro h<;>simp only[h,go_sem,go_sem_proc,YW,bt,h0,h2,h3,h4,hm,hm22,hsn,hlen',cy bs,Z0,bD,YX,beq_self_eq_true]
  ·have hul:l.length≤60:=by
    have:=congrArg Z1 hd;rw[Z2] at this;omega
   have hun:(u==0)=false:=by simpa using hu0
   have hap:=fun d:Int=>dm bs gX 144022 g 8 l d (cs:=[.dat (.int .i64 d)]) rfl (by omega) (by omega)
   have e1:=Am u;have e2:=AJ u;have e3:u.tmod 1048576≤0:=by have:=Z3 (a:=-u) 1048576 (by omega);rw[Int.neg_tmod] at this;omega
   have e4:u.tdiv 1048576≤0∧u≤u.tdiv 1048576:=by
    have:=Z4 (a:=-u) (b:=1048576) (by omega) (by omega);rw[Int.neg_tdiv] at this;omega
   have hw1:IntKind.i64.wrap (u.tdiv 1048576)=u.tdiv 1048576:=an _ (by omega) (by omega);have hw2:IntKind.i64.wrap (0-u.tmod 1048576) = -(u.tmod 1048576):=by rw[an _ (by omega) (by omega)];omega
   have hdu:=jK (n:=u.natAbs) (by omega)
   have hfin:∀ d:Int,d=((u.natAbs % 1048576:Nat):Int)→∃ i':Int × Nat × List Int,i'.1.natAbs<u.natAbs∧i'.1≤0∧n≤i'.1∧dg n.natAbs=i'.2.2++dg i'.1.natAbs∧MV.dat (.int .i64 (u.tdiv 1048576))=MV.dat (.int .i64 i'.1)∧MV.ref 144022 (g+1) 1 0 (l.length+1)=MV.ref 144022 i'.2.1 1 0 i'.2.2.length∧some (g+1,aA aa (l++[d]))=some (i'.2.1,aA aa i'.2.2):=by
    intro d hdd;refine⟨(u.tdiv 1048576,g+1,l++[d]),by dsimp only;omega,by dsimp only;omega,by dsimp only;omega,?_,rfl,by simp,rfl⟩
    dsimp only;rw[hd,hdu,hdd,e2,Z5]
    rfl
   by_cases hz:u.tmod 1048576<0
   ·simp only[go_sem,go_sem_proc,YW,bt,h0,h2,h3,h4,hm,hm22,hun,hap,hw1,hw2,hz,decide_true,YX,List.cons.injEq]
    repeat' (first|refine qS ?_ ?_|fail)<;>intro h<;>simp only[h,go_sem,go_sem_proc,YW,bt,h0,h2,h3,h4,hm,hm22,hun,hap,hw1,hw2,hz,decide_true,YX,List.cons.injEq]
    exact hfin _ (by omega)
   ·simp only[go_sem,go_sem_proc,YW,bt,h0,h2,h3,h4,hm,hm22,hun,hap,hw1,hw2,hz,decide_false,YX,List.cons.injEq]
    repeat' (first|refine qS ?_ ?_|fail)<;>intro h<;>simp only[h,go_sem,go_sem_proc,YW,bt,h0,h2,h3,h4,hm,hm22,hun,hap,hw1,hw2,hz,decide_false,YX,List.cons.injEq]
    exact hfin _ (by omega)
 ·have hsn:=hs 1 (Z6 (by omega)).symm
  simp only[go_sem,go_sem_proc,YW,bt,hne,hpos,decide_false];refine ae [2,3] [144002] (fun ((u,g,l):Int × Nat × List Int) tm mem=>0≤u∧u≤n∧dg n.natAbs=l++dg u.natAbs∧tm 0 = .dat (.int .i64 u)∧tm 4 = .ref 144022 g 1 0 l.length∧mem 144022=some (g,aA aa l)) (fun (u,_)=>u.natAbs) (n,0,[]) (by refine⟨by omega,by omega,rfl,rfl,rfl,rfl⟩) ?_;intro vs ms hvs hms;simp only[go_sem,go_sem_proc,YW,bt,hpos,decide_false] at hvs hms;subst hvs hms;rintro⟨u,g,l⟩ tm mem hk hm ⟨hu,hnu,hd,h0,h4,hm22⟩;simp only[go_sem,go_sem_proc,YW,bt,List.cons.injEq] at hk hm;obtain⟨h2,h3⟩:=hk;rcases Y1 (u=0) with rfl | hu0
  ·rw[show (0:Int).natAbs=0 from rfl,fW,ZZ] at hd
   rw[hd] at hsn hlen';simp only[go_sem,go_sem_proc,YW,bt,h0,h2,h3,h4,hm,hm22,hsn,hlen',cy bs,Z0,bD,YX,beq_self_eq_true]
   repeat' (first|refine qS ?_ ?_|fail)<;>intro h<;>simp only[h,go_sem,go_sem_proc,YW,bt,h0,h2,h3,h4,hm,hm22,hsn,hlen',cy bs,Z0,bD,YX,beq_self_eq_true]
  ·have hul:l.length≤60:=by
    have:=congrArg Z1 hd;rw[Z2] at this;omega
   have hun:(u==0)=false:=by simpa using hu0
   have hap:=fun d:Int=>dm bs gX 144022 g 8 l d (cs:=[.dat (.int .i64 d)]) rfl (by omega) (by omega)
   have e1:=Am u;have e2:=AJ u;have e3:=Z3 (a:=u) 1048576 (by omega);have e4:=Z4 (a:=u) (b:=1048576) (by omega) (by omega);have hw1:IntKind.i64.wrap (u.tdiv 1048576)=u.tdiv 1048576:=an _ (by omega) (by omega);have hdu:=jK (n:=u.natAbs) (by omega);have hz:decide (u.tmod 1048576<0)=false:=decide_eq_false (by omega);simp only[go_sem,go_sem_proc,YW,bt,h0,h2,h3,h4,hm,hm22,hun,hap,hw1,hz,YX,List.cons.injEq]
   repeat' (first|refine qS ?_ ?_|fail)<;>intro h<;>simp only[h,go_sem,go_sem_proc,YW,bt,h0,h2,h3,h4,hm,hm22,hun,hap,hw1,hz,YX,List.cons.injEq]
   refine⟨(u.tdiv 1048576,g+1,l++[u.tmod 1048576]),by dsimp only;omega,by dsimp only;omega,by dsimp only;omega,?_,rfl,by simp,by first | rfl | simp [go_sem]⟩
   dsimp only;rw[hd,hdu,e2,Z5,show u.tmod 1048576=((u.natAbs % 1048576:Nat):Int) by omega]
   rfl
noncomputable def Dn:List Data→Option PRes:=FF (α:=Int × (List Int) × Int × (List Int)) (fun (s,l,s2,l2)=>([.agg [.int .i64 s,.sl (l.map aa)],.agg [.int .i64 s2,.sl (l2.map aa)]]:List Data)) (fun (s,l,s2,l2)=>aI (l.length≤1000000∧l2.length≤1000000) (.same (dM (kd (s,l) (s2,l2)))))
theorem Dg:∀ a b:Int × (List Int) × Int × (List Int),(fun (s,l,s2,l2)=>([.agg [.int .i64 s,.sl (l.map aa)],.agg [.int .i64 s2,.sl (l2.map aa)]]:List Data)) a=(fun (s,l,s2,l2)=>([.agg [.int .i64 s,.sl (l.map aa)],.agg [.int .i64 s2,.sl (l2.map aa)]]:List Data)) b→a=b:=by
  rintro⟨s1,l1,s21,l21⟩ ⟨s2,l2,s22,l22⟩ h;simp only[List.cons.injEq,Data.agg.injEq,Data.int.injEq,Data.sl.injEq] at h;exact YV h.1.1.2 (YV (af ai _ _ h.1.2.1) (YV h.2.1.1.2 (af ai _ _ h.2.1.2.1)))
@[go_sem] theorem Pd (s:Int) (l:List Int) (s2:Int) (l2:List Int) (hc:l.length≤1000000∧l2.length≤1000000):Dn [.agg [.int .i64 s,.sl (l.map aa)],.agg [.int .i64 s2,.sl (l2.map aa)]]=some (.same (dM (kd (s,l) (s2,l2)))):=(aX Dg (s,l,s2,l2)).trans (al hc _)
theorem On (T:Tab) (bP:T ck=mkE l8) (dF:T ia=mkE sO) (bt:T cB=mkE oJ) (s:Int) (l:List Int) (s2:Int) (l2:List Int) (hc:l.length≤1000000∧l2.length≤1000000) :
  wp T mf_ref04_Gcd.body (bF mf_ref04_Gcd.res (.same (dM (kd (s,l) (s2,l2))))) ⟨ax [.dat (.agg [.int .i64 s,.sl (l.map aa)]),.dat (.agg [.int .i64 s2,.sl (l2.map aa)])],emp⟩:=by
 refine ap ?_;simp only[mf_ref04_Gcd];obtain⟨hl1,hl2⟩:=hc
 by_cases hr:aJ (s,l)=true
 ·by_cases hr2:aJ (s2,l2)=true
  ·obtain⟨x,hx,e⟩:=(bj _).1 hr
   obtain⟨y,hy,e2⟩:=(bj _).1 hr2
   have hm:kd (s,l) (s2,l2)=(aR (Z7 x.natAbs y.natAbs:Nat),0):=by
    rw[e,e2];unfold kd
    rw[bI hx,bI hy,aS,aS]
    rfl
   rw[hm];clear hm
   cases e
   cases e2;have hlx:=fI hx;have hly:=fI hy;have hg:=qJ hx hy;generalize hX:x.natAbs=X at *;generalize hY:y.natAbs=Y at *;have hl1':(dg X).length≤1000000:=by omega
   simp only[go_sem,go_sem_proc,YW,bP,dF,bt,hr,hr2,hX,hY,hl1,hl2,hl1',aa,YX];refine ae [4] [164004] (fun ((a,b):Nat × Nat) tm mem=>a<LIM∧b<LIM∧Z7 X Y=Z7 a b∧tm 6 = .dat (.sl ((dg a).map aa))∧tm 7 = .dat (.sl ((dg b).map aa))) (fun (_,b)=>b) (X,Y) (by refine⟨hx,hy,rfl,rfl,rfl⟩) ?_
   intro vs ms hvs hms;simp only[go_sem,go_sem_proc,YW,bP,dF,bt,hX,hY] at hvs hms;subst hvs hms;rintro⟨a,b⟩ tm mem hk hm ⟨ha,hb,hgc,h6,h7⟩;simp only[go_sem,go_sem_proc,YW,bP,dF,bt,List.cons.injEq] at hk hm;have h4:=hk;have hla:(dg a).length≤60:=dg_len.2 ha;have hlb:(dg b).length≤60:=dg_len.2 hb;rcases Nat.eq_zero_or_pos b with h0 | hpos
   ·subst h0
    have hz:dg 0=[]:=rfl;have hla':(dg a).length≤1000000:=by omega
    rw[Nat.gcd_zero_right] at hgc;have hs:fb 1 (dg a)=aR ((a:Nat):Int):=cX (by simp) fun hn=>(Z6 (by omega)).symm
    rw[hgc];refine qI ?_
    repeat' (intro h<;>simp only[h,go_sem,go_sem_proc,YW,bP,dF,bt,h4,h6,h7,hm,hz,hla',hs,bD,dM,cO,ZC,ZO,ZH,ZJ,show ¬ ((0:Int)>0) by omega,decide_false]<;>try refine qS ?_ ?_)
   ·have hne:decide (((dg b).length:Int)>0)=true:=by
     have:dg b≠[]:=by rw[Ne,mY];omega
     have:=List.length_pos_iff.2 this;exact decide_eq_true (by omega)
    have hdiv:=uC a b ⟨by omega,by omega,hpos⟩
    simp only[digs] at hdiv;refine qI ?_
    repeat' (intro h<;>simp only[h,go_sem,go_sem_proc,YW,bP,dF,bt,h4,h6,h7,hm,hne,hdiv,YX]<;>try refine qS ?_ ?_)
    exact⟨(b,a % b),ZN _ hpos,hb,Z8 (Nat.mod_le _ _) ha,by dsimp only;rw[hgc,Z9 a b,Nat.gcd_rec b a,Z9],rfl,rfl⟩
  ·have hr2:aJ (s2,l2)=false:=by simpa using hr2
   have hm:kd (s,l) (s2,l2)=((0,[]),1):=by unfold kd;rw[hr2,ZR];rfl
   rw[hm];refine qI ?_
   repeat' (intro h<;>simp only[h,go_sem,go_sem_proc,YW,bP,dF,bt,hr,hr2,hl1,hl2,bD,dM,ZC]<;>try refine qS ?_ ?_)
 ·have hr:aJ (s,l)=false:=by simpa using hr
  have hm:kd (s,l) (s2,l2)=((0,[]),1):=by unfold kd;rw[hr,ZS];rfl
  rw[hm];refine qI ?_
  repeat' (intro h<;>simp only[h,go_sem,go_sem_proc,YW,bP,dF,bt,hr,hl1,hl2,bD,dM,ZC]<;>try refine qS ?_ ?_)

noncomputable def CX:List Data→Option PRes:=FF (α:=Int × (List Int) × Int × (List Int)) (fun (s,l,s2,l2)=>([.agg [.int .i64 s,.sl (l.map aa)],.agg [.int .i64 s2,.sl (l2.map aa)]]:List Data)) (fun (s,l,s2,l2)=>aI (l.length≤1000000∧l2.length≤1000000) (.same (c9 (jp (s,l) (s2,l2)))))
theorem CS:∀ a b:Int × (List Int) × Int × (List Int),(fun (s,l,s2,l2)=>([.agg [.int .i64 s,.sl (l.map aa)],.agg [.int .i64 s2,.sl (l2.map aa)]]:List Data)) a=(fun (s,l,s2,l2)=>([.agg [.int .i64 s,.sl (l.map aa)],.agg [.int .i64 s2,.sl (l2.map aa)]]:List Data)) b→a=b:=by
  rintro⟨s1,l1,s21,l21⟩ ⟨s2,l2,s22,l22⟩ h;simp only[List.cons.injEq,Data.agg.injEq,Data.int.injEq,Data.sl.injEq] at h;exact YV h.1.1.2 (YV (af ai _ _ h.1.2.1) (YV h.2.1.1.2 (af ai _ _ h.2.1.2.1)))
@[go_sem] theorem Py (s:Int) (l:List Int) (s2:Int) (l2:List Int) (hc:l.length≤1000000∧l2.length≤1000000):CX [.agg [.int .i64 s,.sl (l.map aa)],.agg [.int .i64 s2,.sl (l2.map aa)]]=some (.same (c9 (jp (s,l) (s2,l2)))):=(aX CS (s,l,s2,l2)).trans (al hc _)
theorem Od (T:Tab) (bP:T ck=mkE l8) (dF:T ia=mkE sO) (ig:T lF=mkE yq) (ca:T gq=mkE qE) (bt:T cB=mkE oJ) (s:Int) (l:List Int) (s2:Int) (l2:List Int) (hc:l.length≤1000000∧l2.length≤1000000) :
  wp T mf_ref04_Div.body (bF mf_ref04_Div.res (.same (c9 (jp (s,l) (s2,l2))))) ⟨ax [.dat (.agg [.int .i64 s,.sl (l.map aa)]),.dat (.agg [.int .i64 s2,.sl (l2.map aa)])],emp⟩:=by
 refine ap ?_;simp only[mf_ref04_Div];obtain⟨hl1,hl2⟩:=hc
 by_cases hr:aJ (s,l)=true
 ·by_cases hr2:aJ (s2,l2)=true
  ·obtain⟨x,hx,e⟩:=(bj _).1 hr
   obtain⟨y,hy,e2⟩:=(bj _).1 hr2
   by_cases hy0:y=0
   ·have hm:jp (s,l) (s2,l2)=((0,[]),(0,[]),15):=by
     rw[e,e2];unfold jp
     rw[bI hx,bI hy,aS,aS,if_pos (by rfl),if_pos hy0]
    rw[hm]
    cases e
    cases e2;have h0:((y.sign:Int)==0)=true:=by rw[hy0];rfl
    simp only[go_sem,go_sem_proc,YW,bP,dF,ig,ca,bt,hr,hr2,hl1,hl2,h0,bD,c9,ZC]
    repeat' (first|refine qS ?_ ?_|fail)<;>intro h<;>simp only[h,go_sem,go_sem_proc,YW,bP,dF,ig,ca,bt,hr,hr2,hl1,hl2,h0,bD,c9,ZC]
   ·have hm:jp (s,l) (s2,l2)=(aR (x.fdiv y),aR (x.fmod y),0):=by
     rw[e,e2];exact kr hx hy hy0
    rw[hm];clear hm
    cases e
    cases e2;have hlx:=fI hx;have hly:=fI hy;have hy0':(y.sign==0)=false:=by rw[beq_eq_false_iff_ne,Ne,Int.sign_eq_zero_iff_zero];exact hy0
    have hypos:0<y.natAbs:=by omega
    have h1:=dW x;have h2:=dW y;have hp:x.sign*y.sign=(x*y).sign:=(aaa x y).symm;have h3:=dW (x*y);have hw:IntKind.i64.wrap (x.sign*y.sign)=x.sign*y.sign:=by rw[hp];exact an _ (by omega) (by omega)
    have hdiv:=uC x.natAbs y.natAbs ⟨by omega,by omega,hypos⟩
    simp only[digs] at hdiv;have hq:=ma (y:=y) hx hy0;have hr3:=BI (x:=x) hy hy0;have hlq:x.natAbs / y.natAbs<LIM:=Z8 (Nat.div_le_self _ _) hx;have hlq':(dg (x.natAbs / y.natAbs)).length≤60:=dg_len.2 hlq;have hlr:x.natAbs % y.natAbs<LIM:=Nat.lt_trans (ZN _ hypos) hy;have hlr':(dg (x.natAbs % y.natAbs)).length≤60:=dg_len.2 hlr
    by_cases hlow:x.sign*y.sign<0∧x.natAbs % y.natAbs≠0
    ·obtain⟨eq,er⟩:=oG hlow.1 hlow.2
     have hne:(((dg (x.natAbs % y.natAbs)).length:Int)==0)=false:=by
      have:dg (x.natAbs % y.natAbs)≠[]:=by rw[Ne,mY];exact hlow.2
      have:=List.length_pos_iff.2 this;rw[beq_eq_false_iff_ne];omega
     have hneg:decide (x.sign*y.sign≥0)=false:=decide_eq_false (by have:=hlow.1;omega);have hd1:dg 1=[1]:=by simp [dg,dgF]
     have hl1d:(dg 1).length=1:=by rw[hd1];rfl
     have hadd:=CK (x.natAbs / y.natAbs) 1 ⟨by omega,by omega⟩
     simp only[digs,hd1,ZB,ZC,aa] at hadd;have hsub:=r9 y.natAbs (x.natAbs % y.natAbs) ⟨by omega,by omega,Zz (ZN _ hypos)⟩
     simp only[digs] at hsub
     have hla:(dg (x.natAbs / y.natAbs+1)).length≤1000000:=by
      have:(x.natAbs / y.natAbs+1)<LIM:=by rw[eq] at hq;rw[aab,aac] at hq;exact hq
      have:=(dg_len (k:=60)).2 this;omega
     have hlb:(dg (y.natAbs-x.natAbs % y.natAbs)).length≤1000000:=by have:=sF y.natAbs (x.natAbs % y.natAbs);omega
     have hs1:fb (-1) (dg (x.natAbs / y.natAbs+1))=aR (x.fdiv y):=cX (by rw[eq,aab,aac]) fun _=>by rw[eq,Int.sign_neg,Z6 (show (0:Int)<((x.natAbs / y.natAbs+1:Nat):Int) by exact Int.natCast_pos.2 (Nat.succ_pos _))]
     have hs2:fb y.sign (dg (y.natAbs-x.natAbs % y.natAbs))=aR (x.fmod y):=by
      refine cX ?_ fun hn=>?_
      ·rw[er];rcases cz y with ⟨e',h3⟩ | ⟨e',h3⟩ | ⟨e',h3⟩<;>rw[e']<;>omega
      ·rw[er,aaa,aad,Z6 (show (0:Int)<((y.natAbs-x.natAbs % y.natAbs:Nat):Int) by omega),aae]
     simp only[go_sem,go_sem_proc,YW,bP,dF,ig,ca,bt,hr,hr2,hl1,hl2,hy0',hw,hdiv,hne,hneg,hadd,hsub,hla,hlb,hs1,hs2,aa,YX,bD,c9,cO]
     repeat' (first|refine qS ?_ ?_|fail)<;>intro h<;>simp only[h,go_sem,go_sem_proc,YW,bP,dF,ig,ca,bt,hr,hr2,hl1,hl2,hy0',hw,hdiv,hne,hneg,hadd,hsub,hla,hlb,hs1,hs2,aa,YX,bD,c9,cO]
    ·obtain⟨eq,er⟩:=lf hy0 hlow
     have hlow':(decide (x.sign*y.sign≥0)=false∧(((dg (x.natAbs % y.natAbs)).length:Int)==0)=true)∨decide (x.sign*y.sign≥0)=true:=by
      by_cases hn:x.sign*y.sign<0
      ·left
       have:x.natAbs % y.natAbs=0:=Decidable.not_not.1 fun h=>hlow ⟨hn,h⟩
       rw[this];exact⟨decide_eq_false (by omega),rfl⟩
      ·right;exact decide_eq_true (by omega)
     have hla:(dg (x.natAbs / y.natAbs)).length≤1000000:=by omega
     have hlb:(dg (x.natAbs % y.natAbs)).length≤1000000:=by omega
     have hs1:fb (x.sign*y.sign) (dg (x.natAbs / y.natAbs))=aR (x.fdiv y):=by
      refine cX ?_ fun hn=>?_
      ·rw[eq]
       have hgen:∀ Q:Nat,(x=0→Q=0)→(x.sign*y.sign*(Q:Int)).natAbs=Q:=by
        intro Q h0;rcases cz x with ⟨e,h1⟩ | ⟨e,h1⟩ | ⟨e,h1⟩<;>rcases cz y with ⟨e',h3⟩ | ⟨e',h3⟩ | ⟨e',h3⟩<;>rw[e,e']<;>first | omega | (rw[h0 h1];rfl)
       exact hgen _ fun h0=>by rw[h0];exact Nat.zero_div _
      ·rw[eq,hp,aaa,aaa,aaa,aad,aad,Z6 (show (0:Int)<((x.natAbs / y.natAbs:Nat):Int) from Int.natCast_pos.2 (aaf hn)),aae]
     have hs2:fb x.sign (dg (x.natAbs % y.natAbs))=aR (x.fmod y):=by
      refine cX ?_ fun hn=>?_
      ·rw[er]
       have hgen:∀ Q:Nat,(x=0→Q=0)→(x.sign*(Q:Int)).natAbs=Q:=by
        intro Q h0;rcases cz x with ⟨e,h1⟩ | ⟨e,h1⟩ | ⟨e,h1⟩<;>rw[e]<;>first | omega | (rw[h0 h1];rfl)
       exact hgen _ fun h0=>by rw[h0];exact Nat.zero_mod _
      ·rw[er,aaa,aad,Z6 (show (0:Int)<((x.natAbs % y.natAbs:Nat):Int) from Int.natCast_pos.2 (aaf hn)),aae]
     rcases hlow' with ⟨hlow1,hlow2⟩ | hlow1
     ·simp only[go_sem,go_sem_proc,YW,bP,dF,ig,ca,bt,hr,hr2,hl1,hl2,hy0',hw,hdiv,hlow1,hlow2,hla,hlb,hs1,hs2,aa,YX,bD,c9,cO]
      repeat' (first|refine qS ?_ ?_|fail)<;>intro h<;>simp only[h,go_sem,go_sem_proc,YW,bP,dF,ig,ca,bt,hr,hr2,hl1,hl2,hy0',hw,hdiv,hlow1,hlow2,hla,hlb,hs1,hs2,aa,YX,bD,c9,cO]
     ·simp only[go_sem,go_sem_proc,YW,bP,dF,ig,ca,bt,hr,hr2,hl1,hl2,hy0',hw,hdiv,hlow1,hla,hlb,hs1,hs2,aa,YX,bD,c9,cO]
      repeat' (first|refine qS ?_ ?_|fail)<;>intro h<;>simp only[h,go_sem,go_sem_proc,YW,bP,dF,ig,ca,bt,hr,hr2,hl1,hl2,hy0',hw,hdiv,hlow1,hla,hlb,hs1,hs2,aa,YX,bD,c9,cO]
  ·have hr2:aJ (s2,l2)=false:=by simpa using hr2
   have hm:jp (s,l) (s2,l2)=((0,[]),(0,[]),1):=by unfold jp;rw[hr2,ZR];rfl
   rw[hm];simp only[go_sem,go_sem_proc,YW,bP,dF,ig,ca,bt,hr,hr2,hl1,hl2,bD,c9,ZC]
   repeat' (first|refine qS ?_ ?_|fail)<;>intro h<;>simp only[h,go_sem,go_sem_proc,YW,bP,dF,ig,ca,bt,hr,hr2,hl1,hl2,bD,c9,ZC]
 ·have hr:aJ (s,l)=false:=by simpa using hr
  have hm:jp (s,l) (s2,l2)=((0,[]),(0,[]),1):=by unfold jp;rw[hr,ZS];rfl
  rw[hm];simp only[go_sem,go_sem_proc,YW,bP,dF,ig,ca,bt,hr,hl1,hl2,bD,c9,ZC]
  repeat' (first|refine qS ?_ ?_|fail)<;>intro h<;>simp only[h,go_sem,go_sem_proc,YW,bP,dF,ig,ca,bt,hr,hl1,hl2,bD,c9,ZC]
def mf_ref05_Few:MFunc :=
 { n:=19,np:=2,res:=[.t 4],body :=
 (.seq (.ops [
 Zk 2 115002 0,Zb 4 false])
 (.seq (.ops [
 Zf 5 0 2,Zf 6 1 5,Zl 7 1 6,Zn 8 7,Zv 9 1,Zo 10 .leq 8 9,Zv 11 10,⟨some 12,some (11,true),.fad 2 (.t 2)⟩,⟨some 13,some (11,true),.fad 1 (.t 12)⟩,⟨some 14,some (11,true),.load 1 false (.t 13)⟩,⟨some 15,some (11,true),.len (.t 14)⟩,⟨some 16,some (11,true),.mv (.t 1)⟩,⟨some 17,some (11,true),.bin .leq (.t 15) (.t 16)⟩,Zq 18 11 17,Zv 4 18])
 .ret)) }
def mf_ref05_Of:MFunc :=
 { n:=13,np:=2,res:=[.cell 4 4 true,.t 5],body :=
 (.seq (.ops [
 ⟨some 4,none,.alloc 124004 [(ZI 0),.nil,(ZI 0),.nil]⟩,Zi 5 0])
 (.seq (.ops [
 Zv 6 0,⟨some 7,none,.call ld [(.t 6)]⟩,Zv 8 1,⟨some 9,none,.call ld [(.t 8)]⟩,⟨some 10,none,.call mU [(.t 7),(.t 9)]⟩,Zx 11 0 10,Zx 12 1 10,Zs 4 4 11,Zv 5 12])
 .ret)) }
def mf_ref05_New:MFunc :=
 { n:=57,np:=2,res:=[.cell 4 4 true,.t 5],body :=
 (.seq (.ops [
 Zk 2 143002 0,Zk 3 143003 1,⟨some 4,none,.alloc 143004 [(ZI 0),.nil,(ZI 0),.nil]⟩,Zi 5 0])
 (.seq (.seq (.ops [
 Zu 14 2 2,⟨some 15,none,.call ck [(.t 14)]⟩,Zt 16 15,Zv 17 16,⟨some 18,some (17,false),.load 2 true (.t 3)⟩,⟨some 19,some (17,false),.call ck [(.t 18)]⟩,⟨some 20,some (17,false),.un .not (.t 19)⟩,Zp 21 17 20])
 (.cond (.t 21)
 (.seq (.ops [
 ⟨some 22,none,.build [(ZI 0),.nil,(ZI 0),.nil] []⟩,Zs 4 4 22,Zi 5 1])
 .ret)
 .skip))
 (.seq (.seq (.ops [
 Zf 23 0 3,Zl 24 1 23,Zc 25 .eql 24 0])
 (.cond (.t 25)
 (.seq (.ops [
 ⟨some 26,none,.build [(ZI 0),.nil,(ZI 0),.nil] []⟩,Zs 4 4 26,Zi 5 15])
 .ret)
 .skip))
 (.seq (.seq (.ops [
 Zf 27 0 3,Zl 28 1 27,Zc 29 .lss 28 0])
 (.cond (.t 29)
 (.seq (.ops [
 Zu 30 2 2,⟨some 31,none,.call j8 [(.t 30)]⟩,Zs 2 2 31])
 (.ops [
 Zu 32 2 3,⟨some 33,none,.call j8 [(.t 32)]⟩,Zs 2 3 33]))
 .skip))
 (.seq (.ops [
 Zu 35 2 2,Zu 36 2 3,⟨some 37,none,.call mX [(.t 35),(.t 36)]⟩,Zv 34 37,Zx 38 0 34,Zx 39 1 34,⟨some 6,none,.alloc 143006 [(ZI 0),.nil]⟩,Zs 2 6 38,Zv 7 39])
 (.seq (.ops [
 Zu 41 2 2,Zu 42 2 6,⟨some 43,none,.call j0 [(.t 41),(.t 42)]⟩,Zv 40 43,Zx 44 0 40,Zx 45 1 40,Zx 46 2 40,⟨some 8,none,.alloc 143008 [(ZI 0),.nil]⟩,⟨some 9,none,.alloc 143009 [(ZI 0),.nil]⟩,Zs 2 8 44,Zs 2 9 45,Zv 10 46])
 (.seq (.ops [
 Zu 48 2 3,Zu 49 2 6,⟨some 50,none,.call j0 [(.t 48),(.t 49)]⟩,Zv 47 50,Zx 51 0 47,Zx 52 1 47,Zx 53 2 47,⟨some 11,none,.alloc 143011 [(ZI 0),.nil]⟩,⟨some 12,none,.alloc 143012 [(ZI 0),.nil]⟩,Zs 2 11 51,Zs 2 12 52,Zv 13 53])
 (.seq (.ops [
 Zu 54 2 8,Zu 55 2 11,⟨some 56,none,.build [(ZI 0),.nil,(ZI 0),.nil] [(0,2,(.t 54)),(2,2,(.t 55))]⟩,Zs 4 4 56,Zi 5 0])
 .ret)))))))) }
noncomputable def Co:List Data→Option PRes:=FF (α:=Int × (List Int) × Int × (List Int)) (fun (s,l,s2,l2)=>([.agg [.int .i64 s,.sl (l.map aa)],.agg [.int .i64 s2,.sl (l2.map aa)]]:List Data)) (fun (s,l,s2,l2)=>aI (l.length≤1000000∧l2.length≤1000000) (.same (bw (fM (s,l) (s2,l2)))))
theorem CZ:∀ a b:Int × (List Int) × Int × (List Int),(fun (s,l,s2,l2)=>([.agg [.int .i64 s,.sl (l.map aa)],.agg [.int .i64 s2,.sl (l2.map aa)]]:List Data)) a=(fun (s,l,s2,l2)=>([.agg [.int .i64 s,.sl (l.map aa)],.agg [.int .i64 s2,.sl (l2.map aa)]]:List Data)) b→a=b:=by
  rintro⟨s1,l1,s21,l21⟩ ⟨s2,l2,s22,l22⟩ h;simp only[List.cons.injEq,Data.agg.injEq,Data.int.injEq,Data.sl.injEq] at h;exact YV h.1.1.2 (YV (af ai _ _ h.1.2.1) (YV h.2.1.1.2 (af ai _ _ h.2.1.2.1)))
@[go_sem] theorem OT (s:Int) (l:List Int) (s2:Int) (l2:List Int) (hc:l.length≤1000000∧l2.length≤1000000):Co [.agg [.int .i64 s,.sl (l.map aa)],.agg [.int .i64 s2,.sl (l2.map aa)]]=some (.same (bw (fM (s,l) (s2,l2)))):=(aX CZ (s,l,s2,l2)).trans (al hc _)
theorem N0 (T:Tab) (bP:T ck=mkE l8) (ur:T j8=mkE Cd) (uh:T mX=mkE Dn) (tB:T j0=mkE CX) (s:Int) (l:List Int) (s2:Int) (l2:List Int) (hc:l.length≤1000000∧l2.length≤1000000) :
  wp T mf_ref05_New.body (bF mf_ref05_New.res (.same (bw (fM (s,l) (s2,l2))))) ⟨ax [.dat (.agg [.int .i64 s,.sl (l.map aa)]),.dat (.agg [.int .i64 s2,.sl (l2.map aa)])],emp⟩:=by
 refine ap ?_;simp only[mf_ref05_New];obtain⟨hl1,hl2⟩:=hc
 by_cases hr:aJ (s,l)=true
 ·by_cases hr2:aJ (s2,l2)=true
  ·obtain⟨x,hx,e⟩:=(bj _).1 hr
   obtain⟨y,hy,e2⟩:=(bj _).1 hr2
   by_cases h0:y=0
   ·have hm:fM (s,l) (s2,l2)=(bV,15):=by
     unfold fM;rw[hr,hr2,e2,aS,if_pos (by rfl),if_pos h0]
    rw[hm]
    cases e
    cases e2;have hs:(y.sign==0)=true:=by rw[h0];rfl
    refine qI ?_
    repeat' (intro h<;>simp only[h,go_sem,go_sem_proc,YW,bP,ur,uh,tB,hr,hr2,hl1,hl2,hs,bw,ad,bV,ZC]<;>try refine qS ?_ ?_)
   ·have main:∀ p q:Int,p.natAbs<LIM→q.natAbs<LIM→0<q→∃ g:Raw,kd (aR p) (aR q)=(g,0)∧g.2.length≤1000000∧jp (aR p) g=(aR (aag p q).num,aR (p.fmod ((Z7 p.natAbs q.natAbs:Nat):Int)),0)∧jp (aR q) g=(aR (aag p q).den,aR (q.fmod ((Z7 p.natAbs q.natAbs:Nat):Int)),0):=by
     intro p q hp hq hq0;have hgl:=qJ hp hq;have hgl':((Z7 p.natAbs q.natAbs:Nat):Int).natAbs<LIM:=by rw[aac];exact hgl
     have hg0:=vf (p:=p) (q:=q) (by omega);obtain⟨h1,h2⟩:=mQ (p:=p) hq0;refine⟨aR ((Z7 p.natAbs q.natAbs:Nat):Int),?_,eT hgl',?_,?_⟩
     ·unfold kd;rw[bI hp,bI hq,aS,aS];rfl
     ·rw[kr hp hgl' (by omega),h1]
     ·rw[kr hq hgl' (by omega),h2]
    have hs0:(y.sign==0)=false:=by simpa using h0
    rcases Int.lt_or_gt_of_ne h0 with hneg | hpos
    ·have hs1:decide (y.sign<0)=true:=by rw[ZY hneg];rfl
     obtain⟨⟨g1,g2⟩,hg,hgl,hd1,hd2⟩:=main (-x) (-y) (by omega) (by omega) (by omega)
     have hm:fM (s,l) (s2,l2)=(aj (aag (-x) (-y)),0):=by
      rw[e,e2,iN hx hy h0,Rat.neg_divInt_neg]
     rw[hm];have hn1:iT (s,l)=aR (-x):=by unfold iT;rw[if_pos hr,e,aS]
     have hn2:iT (s2,l2)=aR (-y):=by unfold iT;rw[if_pos hr2,e2,aS]
     have hy1:s2=y.sign:=congrArg Prod.fst e2;have hl3:(aR (-x)).2.length≤1000000:=eT (by omega);have hl4:(aR (-y)).2.length≤1000000:=eT (by omega);clear e e2;unfold aj;generalize aR (-x)=X at *;generalize aR (-y)=Y at *;obtain⟨x1,x2⟩:=X;obtain⟨y1,y2⟩:=Y;rw[←hy1] at hs0 hs1;refine qI ?_
     repeat' (intro h<;>simp only[h,go_sem,go_sem_proc,YW,bP,ur,uh,tB,hr,hr2,hl1,hl2,hs0,hs1,hn1,hn2,hl3,hl4,hg,hgl,hd1,hd2,bw,ad,dM,c9,bD]<;>try refine qS ?_ ?_)
    ·have hs1:decide (y.sign<0)=false:=by rw[Z6 hpos];rfl
     obtain⟨⟨g1,g2⟩,hg,hgl,hd1,hd2⟩:=main x y hx hy hpos
     have hm:fM (s,l) (s2,l2)=(aj (aag x y),0):=by
      rw[e,e2,iN hx hy h0]
     rw[hm];have hy1:s2=y.sign:=congrArg Prod.fst e2;rw[←e] at hg hd1;rw[←e2] at hg hd2;rw[←hy1] at hs0 hs1;unfold aj;refine qI ?_
     repeat' (intro h<;>simp only[h,go_sem,go_sem_proc,YW,bP,ur,uh,tB,hr,hr2,hl1,hl2,hs0,hs1,hg,hgl,hd1,hd2,bw,ad,dM,c9,bD]<;>try refine qS ?_ ?_)
  ·have hr2:aJ (s2,l2)=false:=by simpa using hr2
   have hm:fM (s,l) (s2,l2)=(bV,1):=by unfold fM;rw[hr2,ZR];rfl
   rw[hm];refine qI ?_
   repeat' (intro h<;>simp only[h,go_sem,go_sem_proc,YW,bP,ur,uh,tB,hr,hr2,hl1,hl2,bw,ad,bV,ZC]<;>try refine qS ?_ ?_)
 ·have hr:aJ (s,l)=false:=by simpa using hr
  have hm:fM (s,l) (s2,l2)=(bV,1):=by unfold fM;rw[hr,ZS];rfl
  rw[hm];refine qI ?_
  repeat' (intro h<;>simp only[h,go_sem,go_sem_proc,YW,bP,ur,uh,tB,hr,hl1,hl2,bw,ad,bV,ZC]<;>try refine qS ?_ ?_)
noncomputable def JF:List Data→Option PRes:=FF (α:=Int × Int) (fun (p,q)=>([.int .i64 p,.int .i64 q]:List Data)) (fun (p,q)=>aI (cn p∧cn q) (.same (bw (fM (aR p) (aR q)))))
theorem Fo:∀ a b:Int × Int,(fun (p,q)=>([.int .i64 p,.int .i64 q]:List Data)) a=(fun (p,q)=>([.int .i64 p,.int .i64 q]:List Data)) b→a=b:=by
  rintro⟨p1,q1⟩ ⟨p2,q2⟩ h;simp only[List.cons.injEq,Data.int.injEq,Data.agg.injEq,Data.sl.injEq,Data.bool.injEq,Data.str.injEq,Data.ptr.injEq,Data.tup.injEq,Prod.mk.injEq,true_and,and_true] at h ⊢
  first | exact h | simpa [ZX,and_assoc] using h | grind
@[go_sem] theorem Rn (p:Int) (q:Int) (hc:cn p∧cn q):JF [.int .i64 p,.int .i64 q]=some (.same (bw (fM (aR p) (aR q)))):=(aX Fo (p,q)).trans (al hc _)
theorem Re (T:Tab) (Qe:T ld=mkE In) (NV:T mU=mkE Co) (p:Int) (q:Int) (hc:cn p∧cn q) :
  wp T mf_ref05_Of.body (bF mf_ref05_Of.res (.same (bw (fM (aR p) (aR q))))) ⟨ax [.dat (.int .i64 p),.dat (.int .i64 q)],emp⟩:=by
 refine ap ?_;simp only[mf_ref05_Of];obtain⟨h1,h2⟩:=hc;have l1:(aR p).2.length≤1000000:=eT (jx h1);have l2:(aR q).2.length≤1000000:=eT (jx h2);generalize hP:aR p=P at *;generalize hQ:aR q=Q at *;obtain⟨x1,x2⟩:=P;obtain⟨y1,y2⟩:=Q;refine qI ?_
 repeat' (intro h<;>simp only[h,go_sem,go_sem_proc,YW,Qe,NV,h1,h2,hP,hQ,l1,l2,bD,bw,ad]<;>try refine qS ?_ ?_)
def vv (f:aF) (n:Int):Bool:=decide ((f.1.2.length:Int)≤n)&&decide ((f.2.2.length:Int)≤n)
noncomputable def DG:List Data→Option PRes:=FF (α:=Int × (List Int) × Int × (List Int) × Int) (fun (s,l,s2,l2,n)=>([.agg [.int .i64 s,.sl (l.map aa),.int .i64 s2,.sl (l2.map aa)],.int .i64 n]:List Data)) (fun (s,l,s2,l2,n)=>some (.same (.bool (vv ((s,l),(s2,l2)) n))))
theorem Dc:∀ a b:Int × (List Int) × Int × (List Int) × Int,(fun (s,l,s2,l2,n)=>([.agg [.int .i64 s,.sl (l.map aa),.int .i64 s2,.sl (l2.map aa)],.int .i64 n]:List Data)) a=(fun (s,l,s2,l2,n)=>([.agg [.int .i64 s,.sl (l.map aa),.int .i64 s2,.sl (l2.map aa)],.int .i64 n]:List Data)) b→a=b:=by
  rintro⟨s1,l1,s21,l21,n1⟩ ⟨s2,l2,s22,l22,n2⟩ h;simp only[List.cons.injEq,Data.agg.injEq,Data.int.injEq,Data.sl.injEq] at h;exact YV h.1.1.2 (YV (af ai _ _ h.1.2.1) (YV h.1.2.2.1.2 (YV (af ai _ _ h.1.2.2.2.1) h.2.1.2)))
@[go_sem] theorem PF (s:Int) (l:List Int) (s2:Int) (l2:List Int) (n:Int):DG [.agg [.int .i64 s,.sl (l.map aa),.int .i64 s2,.sl (l2.map aa)],.int .i64 n]=some (.same (.bool (vv ((s,l),(s2,l2)) n))):=aX Dc (s,l,s2,l2,n)
theorem N5 (T:Tab)  (s:Int) (l:List Int) (s2:Int) (l2:List Int) (n:Int) :
  wp T mf_ref05_Few.body (bF mf_ref05_Few.res (.same (.bool (vv ((s,l),(s2,l2)) n)))) ⟨ax [.dat (.agg [.int .i64 s,.sl (l.map aa),.int .i64 s2,.sl (l2.map aa)]),.dat (.int .i64 n)],emp⟩:=by
 refine ap ?_;simp only[mf_ref05_Few];unfold vv;rcases h1:decide ((l.length:Int)≤n)
 ·refine qI ?_
  repeat' (intro h<;>simp only[h,go_sem,go_sem_proc,YW,h1,YX,ZS]<;>try refine qS ?_ ?_)
 ·refine qI ?_
  repeat' (intro h<;>simp only[h,go_sem,go_sem_proc,YW,h1,YX,ZQ]<;>try refine qS ?_ ?_)

def mf_ref06_FewFracs:MFunc :=
 { n:=30,np:=3,res:=[.t 6],body :=
 (.seq (.ops [
 Zb 6 false])
 (.seq (.seq (.ops [
 Zi 7 0])
 (.block 0
 (.loop
 (.seq (.seq (.ops [
 Zv 8 7,Zv 9 0,Zn 10 9,Zo 11 .lss 8 10,Zv 12 11,⟨some 13,some (12,true),.mv (.t 7)⟩,⟨some 14,some (12,true),.mv (.t 1)⟩,⟨some 15,some (12,true),.bin .leq (.t 13) (.t 14)⟩,Zq 16 12 15])
 (.cond (.t 16)
 .skip
 (.exit 0)))
 (.seq (.block 1
 (.seq (.ops [
 Zv 19 0,Zv 20 7,Za 21 4 19 20,Zu 22 4 21,Zv 23 2,⟨some 24,none,.call na [(.t 22),(.t 23)]⟩,Zt 25 24])
 (.cond (.t 25)
 (.seq (.ops [
 Zb 6 false])
 .ret)
 .skip)))
 (.ops [
 Zv 17 7,Zc 18 .add 17 1,Zv 7 18]))))))
 (.seq (.ops [
 Zv 26 0,Zn 27 26,Zv 28 1,Zo 29 .leq 27 28,Zv 6 29])
 .ret))) }
def nh (l:List aF) (n d:Int):Bool:=decide ((l.length:Int)≤n)&&l.all fun f=>vv f d
theorem nX {α:Type} {p:α→Bool} {l:List α} {i:Nat} {x:α} (hx:l[i]?=some x):(l.take (i+1)).all p=((l.take i).all p&&p x):=by
 rw[aah,hx,List.all_append];simp
theorem yd {α:Type} {p:α→Bool} {l:List α} {i:Nat} {x:α} (hx:l[i]?=some x) (h:p x=false):l.all p=false:=by
 rw[List.all_eq_false];exact⟨x,aai hx,by simp [h]⟩
noncomputable def ny:List Data→Option PRes:=FF (α:=(List aF) × Int × Int) (fun (l,n,d)=>([.sl (l.map ad),.int .i64 n,.int .i64 d]:List Data)) (fun (l,n,d)=>aI (n≤1000000) (.same (.bool (nh l n d))))
theorem sC:∀ a b:(List aF) × Int × Int,(fun (l,n,d)=>([.sl (l.map ad),.int .i64 n,.int .i64 d]:List Data)) a=(fun (l,n,d)=>([.sl (l.map ad),.int .i64 n,.int .i64 d]:List Data)) b→a=b:=by
  rintro⟨l1,n1,d1⟩ ⟨l2,n2,d2⟩ h;simp only[List.cons.injEq,Data.int.injEq,Data.sl.injEq] at h;exact YV (af de _ _ h.1) (YV h.2.1.2 h.2.2.1.2)
@[go_sem] theorem uZ (l:List aF) (n:Int) (d:Int) (hc:n≤1000000):ny [.sl (l.map ad),.int .i64 n,.int .i64 d]=some (.same (.bool (nh l n d))):=(aX sC (l,n,d)).trans (al hc _)
theorem zK (T:Tab) (pA:T na=mkE DG) (l:List aF) (n:Int) (d:Int) (hc:n≤1000000) :
  wp T mf_ref06_FewFracs.body (bF mf_ref06_FewFracs.res (.same (.bool (nh l n d)))) ⟨ax [.dat (.sl (l.map ad)),.dat (.int .i64 n),.dat (.int .i64 d)],emp⟩:=by
 refine ap ?_;simp only[mf_ref06_FewFracs];simp only[go_sem,go_sem_proc,YW,pA,YX];refine ae [0,1,2] [] (fun (i:Nat) tm mem=>i≤l.length∧(l.take i).all (fun f=>vv f d)=true∧tm 7 = .dat (.int .i64 i)) (fun i=>l.length-i) 0 (by refine⟨by omega,by simp,rfl⟩) ?_;intro vs ms hvs hms;simp only[go_sem,go_sem_proc,YW,pA,YX] at hvs hms;subst hvs hms;rintro i tm mem hk hm ⟨hi,hf,h7⟩;simp only[go_sem,go_sem_proc,YW,pA,List.cons.injEq] at hk;obtain⟨h0,h1,h2⟩:=hk
 by_cases hgo:i<l.length∧(i:Int)≤n
 ·obtain⟨hlt,hin⟩:=hgo
  obtain⟨⟨⟨a,b⟩,⟨c,e⟩⟩,hx⟩:∃ f,l[i]?=some f:=⟨_,YT hlt⟩;have d1:decide ((i:Int)<(l.length:Int))=true:=decide_eq_true (by omega);have d2:decide ((i:Int)≤n)=true:=decide_eq_true hin;have w3:IntKind.i64.wrap ((i:Int)+1)=((i+1:Nat):Int):=by rw[an _ (by omega) (by omega)];omega
  rcases hfew:vv ((a,b),(c,e)) d
  ·have hr:nh l n d=false:=by unfold nh;rw[yd hx hfew,ZR]
   rw[hr];refine qI ?_
   repeat' (intro h<;>simp only[h,go_sem,go_sem_proc,YW,pA,h0,h1,h2,h7,hx,d1,d2,w3,hfew,ad,YX,Y2]<;>try refine qS ?_ ?_)
  ·refine qI ?_
   repeat' (intro h<;>simp only[h,go_sem,go_sem_proc,YW,pA,h0,h1,h2,h7,hx,d1,d2,w3,hfew,ad,YX,Y2]<;>try refine qS ?_ ?_)
   exact⟨i+1,by omega,by omega,by rw[nX hx,hf,hfew];rfl,rfl⟩
 ·have hr:nh l n d=decide ((l.length:Int)≤n):=by
   unfold nh
   by_cases hln:(l.length:Int)≤n
   ·have:i=l.length:=by omega
    rw[this,Z0] at hf;rw[hf,ZP]
   ·rw[decide_eq_false hln,ZS]
  rw[hr];rcases d1:decide ((i:Int)<(l.length:Int))
  ·refine qI ?_
   repeat' (intro h<;>simp only[h,go_sem,go_sem_proc,YW,pA,h0,h1,h2,h7,d1,YX]<;>try refine qS ?_ ?_)
  ·have d2:decide ((i:Int)≤n)=false:=decide_eq_false (by have:=of_decide_eq_true d1;omega)
   refine qI ?_
   repeat' (intro h<;>simp only[h,go_sem,go_sem_proc,YW,pA,h0,h1,h2,h7,d1,d2,YX]<;>try refine qS ?_ ?_)
end Go.Mini
namespace Go.Mini
open Go
variable {P:Program} {A:Nat→Prop} {w w':World} {B B':Lay} {mem mem':Mem}
structure iD (P:Program) (f:FuncId) (E:List MV→Mem→Option Eff):Prop where
 real:Real P f
 run:∀ args mem eff,E args mem=some eff→∀ A w B vs,MemRel A w B mem→RL w (OA A B) B args vs→IH P f vs A w B mem eff
def qT (res:List nk) (R:MV→Mem→Prop):bM→St→Prop
 | .exit _,_=>False
 | .normal,st=>∃ m,gu st res=some m∧R m st.mem
 | .ret,st=>∃ m,gu st res=some m∧R m st.mem
@[go_sem] theorem OO {res:List nk} {st:St} (R:MV→Mem→Prop) (id:Nat):qT res R (.exit id) st=False:=_root_.id rfl
@[go_sem] theorem M3 {res:List nk} {st:St} (R:MV→Mem→Prop):qT res R .normal st=∃ m,gu st res=some m∧R m st.mem:=_root_.id rfl
@[go_sem] theorem QG {res:List nk} {st:St} (R:MV→Mem→Prop):qT res R .ret st=∃ m,gu st res=some m∧R m st.mem:=_root_.id rfl
theorem rN {mf:MFunc} {R:MV→Mem→Prop} {e:bM} {st:St} (h:qT mf.res R e st):Kh mf R e st:=by
 cases e with
 | exit id=>exact h
 | normal=>exact h
 | ret=>exact h
theorem xI {kb : Nat} {own : List Nat} {f : FuncId} {fn : Func} {mf : MFunc} (hf : P.funcs[f]? = some fn) (hname : (fn.name == "runtime.NumGoroutine") = false) (htr : jL P kb own fn = some mf) : Real P f := by
 cases hb:fn.body with
 | none=>simp [jL,hb] at htr
 | some c=>exact⟨fn,c,hf,hb,hname⟩
def mkQ (Q:List MV→Mem→Option (MV→Mem→Prop)) (args:List MV) (mem:Mem):Option Eff:=(Q args mem).map .rel
@[go_sem] theorem R5 (Q:List MV→Mem→Option (MV→Mem→Prop)) (args:List MV) (mem:Mem):mkQ Q args mem=(Q args mem).map .rel:=_root_.id rfl
theorem rH {T : Tab} {kb : Nat} {own : List Nat} (hT : jR P T) (hm : P.follows .mixedOrders = true) {f : FuncId} {fn : Func} {mf : MFunc} (hf : P.funcs[f]? = some fn) (hname : (fn.name == "runtime.NumGoroutine") = false) (htr : jL P kb own fn = some { mf with body := erase mf.body })
  {Q:List MV→Mem→Option (MV→Mem→Prop)} (h:∀ args mem R,Q args mem=some R→args.length≤mf.n∧wp T mf.body (qT mf.res R) ⟨ax args,mem⟩):iD P f (mkQ Q):=by
 refine⟨xI hf hname htr,fun args mem eff hE A w B vs hmr hv=>?_⟩
 unfold mkQ at hE;rw[aaj] at hE;obtain⟨R,hR,rfl⟩:=hE;obtain⟨hlen,hwp⟩:=h args mem R hR;refine Calls.mono (ky (Post:=R) hT hm hf htr hlen (fun e st hk=>rN hk) hwp hmr hv) fun e w' he=>?_
 obtain⟨v,m,mem',B',rfl,hs,hv',hp⟩:=he;exact⟨v,m,mem',B',rfl,hs,hv',hp⟩
inductive iZ (J:Key→Prop):MV→Prop
 | dat {d:Data}:iZ J (.dat d)
 | nil:iZ J .nil
 | ref {k g sz off len:Nat} (h:¬ J k):iZ J (.ref k g sz off len)
 | ptr {k g off:Nat} (h:¬ J k):iZ J (.ptr k g off)
 | clo {f:FuncId} {caps:List MV} (h:∀ (i:Nat) (m:MV),caps[i]?=some m→iZ J m):iZ J (.clo f caps)
 | agg {cs:List MV} (h:∀ (i:Nat) (m:MV),cs[i]?=some m→iZ J m):iZ J (.agg cs)
 | tup {cs:List MV} (h:∀ (i:Nat) (m:MV),cs[i]?=some m→iZ J m):iZ J (.tup cs)
 | no:iZ J .no
 | undef:iZ J .undef
theorem Io {J:Key→Prop} {O:Nat→Prop} (hJ:∀ k,J k→B k=none) {m:MV} {v:Value} (h:VR w O B m v):iZ J m:=by
 induction h with
 | dat h=>exact .dat
 | nil=>exact .nil
 | ref he hg hv=>exact .ref fun hj=>by rw[hJ _ hj] at he;cases he
 | ptr he hg hv=>exact .ptr fun hj=>by rw[hJ _ hj] at he;cases he
 | clo hl hd ih=>exact .clo fun i m hi=>ih i m _ hi (YT (by have hlt:=(List.getElem?_eq_some_iff.1 hi).1;omega))
 | agg hl hd ih=>exact .agg fun i m hi=>ih i m _ hi (YT (by have hlt:=(List.getElem?_eq_some_iff.1 hi).1;omega))
 | tup hl hd ih=>exact .tup fun i m hi=>ih i m _ hi (YT (by have hlt:=(List.getElem?_eq_some_iff.1 hi).1;omega))
 | no=>exact .no
 | undef=>exact .undef
open Classical in
noncomputable def lT (J:Key→Prop) (B:Lay):Lay:=fun k=>if J k then none else B k
theorem ki {J:Key→Prop} {b:Nat} (h:Own (lT J B) b):Own B b:=by
 obtain⟨k,e,he,hb⟩:=h;unfold lT at he
 split at he
 ·cases he
 ·exact⟨k,e,he,hb⟩
theorem L0 {J:Key→Prop} {m:MV} {v:Value} (h:VR w (OA A B) B m v) (hc:iZ J m):VR w (OA A (lT J B)) (lT J B) m v:=by
 have at_:∀ {k:Key} {e:Bk},¬ J k→B k=some e→lT J B k=some e:=fun hk he=>by unfold lT;rw[if_neg hk];exact he
 induction h with
 | dat h=>exact .dat (h.less fun b hb=>hb.imp ki id)
 | nil=>exact .nil
 | ref he hg hv=>cases hc with | ref hk=>exact .ref (at_ hk he) hg hv
 | ptr he hg hv=>cases hc with | ptr hk=>exact .ptr (at_ hk he) hg hv
 | clo hl hd ih=>cases hc with | clo hc=>exact .clo hl fun i d v hi hv=>ih i d v hi hv (hc i d hi)
 | agg hl hd ih=>cases hc with | agg hc=>exact .agg hl fun i d v hi hv=>ih i d v hi hv (hc i d hi)
 | tup hl hd ih=>cases hc with | tup hc=>exact .tup hl fun i d v hi hv=>ih i d v hi hv (hc i d hi)
 | no=>exact .no
 | undef=>exact .undef
theorem StepOK.drop {J:Key→Prop} {mem'':Mem} (h0:MemRel A w B mem) (hJ:∀ k,J k→mem k=none) (h:StepOK A w B w' B' mem') (h1:∀ k,J k→mem'' k=none) (h2:∀ k,¬ J k→mem'' k=mem' k)
  (hc:∀ k g cs,mem'' k=some (g,cs)→∀ m∈cs,(∃ d,m = .dat d)∨∃ k0 g0 cs0,mem k0=some (g0,cs0)∧m∈cs0):StepOK A w B w' (lT J B') mem'':=by
 have hB:∀ k,J k→B k=none:=fun k hk=>h0.dom k (hJ k hk)
 have at_:∀ {k:Key},¬ J k→lT J B' k=B' k:=fun hk=>by unfold lT;rw[if_neg hk]
 have no_:∀ {k:Key},J k→lT J B' k=none:=fun hk=>by unfold lT;rw[if_pos hk]
 refine⟨⟨fun k hk=>?_,fun k k' e e' b he he' hb hb'=>?_,fun b ha ho=>h.mr.sep b ha (ki ho),h.mr.lt,fun k g cs hk=>?_⟩,⟨h.tr.size,fun b hb ho=>?_,fun k e he=>?_⟩,h.fr,fun b hb=>h.fresh b (ki hb)⟩
 ·by_cases hj:J k
  ·exact no_ hj
  ·rw[at_ hj];exact h.mr.dom k (by rw[←h2 k hj];exact hk)
 ·by_cases hj:J k
  ·rw[no_ hj] at he;cases he
  ·by_cases hj':J k'
   ·rw[no_ hj'] at he';cases he'
   ·rw[at_ hj] at he
    rw[at_ hj'] at he';exact h.mr.inj k k' e e' b he he' hb hb'
 ·by_cases hj:J k
  ·rw[h1 k hj] at hk;cases hk
  ·obtain⟨e,he,hg,hn,hb⟩:=h.mr.blk k g cs (by rw[←h2 k hj];exact hk)
   refine⟨e,by rw[at_ hj];exact he,hg,hn,fun b hbb=>?_⟩
   obtain⟨vs,T,hh,hz,hle,hr⟩:=hb b hbb;refine⟨vs,T,hh,hz,hle,fun i m hi=>?_⟩
   obtain⟨v,hv,hvr⟩:=hr i m hi;refine⟨v,hv,L0 hvr ?_⟩;rcases hc k g cs hk m (aai hi) with ⟨d,rfl⟩ | ⟨k0,g0,cs0,hm0,hmem⟩
   ·exact .dat
   ·obtain⟨e0,he0,hg0,hn0,hb0⟩:=h0.blk k0 g0 cs0 hm0
    cases hbk:e0.blk with
    | none=>rw[hn0 hbk] at hmem;cases hmem
    | some b0 =>
     obtain⟨vs0,T0,_,_,_,hr0⟩:=hb0 b0 hbk;obtain⟨i0,hi0⟩:=List.mem_iff_getElem?.1 hmem;obtain⟨v0,_,hvr0⟩:=hr0 i0 m hi0;exact Io hB hvr0
 ·obtain⟨h3,h4⟩:=h.tr.old b hb ho
  exact⟨h3,fun hx=>h4 (ki hx)⟩
 ·have hj:¬ J k:=fun hj=>by rw[hB k hj] at he;cases he
  rw[at_ hj];exact h.tr.key k e he
def mkU (U:List MV→Mem→Option (Data × Key × Nat × Nat × Data)) (args:List MV) (mem:Mem):Option Eff:=(U args mem).map fun x => .upd x.1 x.2.1 x.2.2.1 x.2.2.2.1 (.dat x.2.2.2.2)
@[go_sem] theorem Si (U:List MV→Mem→Option (Data × Key × Nat × Nat × Data)) (args:List MV) (mem:Mem):mkU U args mem=(U args mem).map fun x => .upd x.1 x.2.1 x.2.2.1 x.2.2.2.1 (.dat x.2.2.2.2):=_root_.id rfl
theorem Fs {T : Tab} {kb : Nat} {own : List Nat} (hT : jR P T) (hm : P.follows .mixedOrders = true) {f : FuncId} {fn : Func} {mf : MFunc} (hf : P.funcs[f]? = some fn) (hname : (fn.name == "runtime.NumGoroutine") = false) (htr : jL P kb own fn = some { mf with body := erase mf.body })
  (J:Key→Prop) {U:List MV→Mem→Option (Data × Key × Nat × Nat × Data)}
  (h:∀ args mem r k g i d,U args mem=some (r,k,g,i,d)→args.length≤mf.n∧(∀ j,J j→mem j=none)∧¬ J k∧(∃ cs,mem k=some (g,cs)) ∧
   wp T mf.body (qT mf.res fun m mem'=>toD 6 emp m=some r∧∀ j,¬ J j→mem' j=az mem k g ((fG mem k).set i (.dat d)) j) ⟨ax args,mem⟩):iD P f (mkU U):=by
 refine⟨xI hf hname htr,fun args mem eff hE A w B vs hmr hv=>?_⟩
 unfold mkU at hE;rw[aaj] at hE;obtain⟨⟨r,k,g,i,d⟩,hU,rfl⟩:=hE;obtain⟨hlen,hJ,hk,⟨cs,hcs⟩,hwp⟩:=h args mem r k g i d hU;refine Calls.mono (ky (Post:=fun m mem'=>toD 6 emp m=some r∧∀ j,¬ J j→mem' j=az mem k g ((fG mem k).set i (.dat d)) j) hT hm hf htr hlen (fun e st hk=>rN hk) hwp hmr hv) fun e w' he=>?_
 obtain⟨v,m,mem',B',rfl,hs,hv',hd,hmem⟩:=he;refine⟨v,lT J B',rfl,hs.drop hmr hJ (fun j hj=>?_) (fun j hj=>(hmem j hj).symm) ?_,.dat ((rB 6 m v r hd hv').less fun b hb=>hb.imp ki id)⟩
 ·have:j≠k:=fun e=>hk (e ▸ hj)
  simp only[az,this,if_false];exact hJ j hj
 ·intro k2 g2 cs2 h2 m hm2
  by_cases hk2:k2=k
  ·subst hk2
   simp only[az,if_true,Option.some.injEq,Prod.mk.injEq] at h2;obtain⟨-,rfl⟩:=h2;rcases aak hm2 with hx | rfl
   ·refine .inr ⟨k2,g,cs,hcs,?_⟩
    simpa [fG,hcs] using hx
   ·exact .inl ⟨d,rfl⟩
  ·simp only[az,hk2,if_false] at h2
   exact .inr ⟨k2,g2,cs2,h2,hm2⟩
def orE:Option Eff→Option Eff→Option Eff
 | some x,_=>some x
 | none,e=>e
@[go_sem] theorem PP (x:Eff) (e:Option Eff):orE (some x) e=some x:=_root_.id rfl
@[go_sem] theorem Qq (e:Option Eff):orE none e=e:=_root_.id rfl
def zw (PT:FuncId→Option (List Data→Option PRes)) (ET:FuncId→Option (List MV→Mem→Option Eff)):Tab:=fun f args mem=>match ET f with
 | some E=>orE (E args mem) (mkT PT f args mem)
 | none=>mkT PT f args mem
theorem av {PT:FuncId→Option (List Data→Option PRes)} {ET:FuncId→Option (List MV→Mem→Option Eff)} (h:∀ f F,PT f=some F→aQ P f F) (hr:∀ f E,ET f=some E→iD P f E):jR P (zw PT ET):=by
 intro f args mem eff hT;unfold zw at hT
 split at hT
 ·rename_i E hE
  have hs:=hr f E hE
  cases hx:E args mem with
  | none =>
   rw[hx] at hT;exact If h f args mem eff hT
  | some y =>
   rw[hx] at hT
   cases hT;exact⟨hs.real,fun A w B vs hmr hv=>hs.run args mem eff hx A w B vs hmr hv⟩
 ·exact If h f args mem eff hT
theorem RSpec.toE {f:FuncId} {G:List MV→Mem→Option (MV × Mem)} (h:RSpec P f G):iD P f (mkG G):=by
 refine⟨h.real,fun args mem eff hE A w B vs hmr hv=>?_⟩
 unfold mkG at hE;rw[aaj] at hE;obtain⟨x,hx,rfl⟩:=hE;exact h.run args mem x hx A w B vs hmr hv
section
variable {PT:FuncId→Option (List Data→Option PRes)} {ET:FuncId→Option (List MV→Mem→Option Eff)} {f:FuncId}
theorem ah {F:List Data→Option PRes} (h:ET f=none) (h':PT f=some F):zw PT ET f=mkE F:=by
 funext args mem
 unfold zw;rw[h];exact congrFun (congrFun (JO h') args) mem
theorem nq {E:List MV→Mem→Option Eff} (h:ET f=some E) (h':PT f=none):zw PT ET f=E:=by
 funext args mem
 unfold zw mkT;rw[h,h'];dsimp only
 cases E args mem<;>rfl
theorem oo {F:List Data→Option PRes} {G:List MV→Mem→Option (MV × Mem)} (h:ET f=some (mkG G)) (h':PT f=some F):zw PT ET f=xc F G:=by
 funext args mem
 unfold zw;rw[h];unfold xc mkG;rw[show mkT PT f args mem=mkE F args mem from congrFun (congrFun (JO h') args) mem];dsimp only
 cases G args mem<;>rfl
end
def ETl (l:List (FuncId × (List MV→Mem→Option Eff))):FuncId→Option (List MV→Mem→Option Eff):=fun f=>(l.find? fun p=>p.1==f).map (·.2)
theorem aB {l:List (FuncId × (List MV→Mem→Option Eff))} (h:∀ p∈l,iD P p.1 p.2):∀ f G,ETl l f=some G→iD P f G:=by
 intro f F hf;unfold ETl at hf;rw[aaj] at hf;obtain⟨p,hp,rfl⟩:=hf;have h1:=List.mem_of_find?_eq_some hp;have h2:=List.find?_some hp;have h3:p.1=f:=by simpa using h2
 exact h3 ▸ h p h1
theorem au:∀ p∈([]:List (FuncId × (List MV→Mem→Option Eff))),iD P p.1 p.2:=by simp
theorem eJ {f:FuncId} {F:List MV→Mem→Option Eff} {l:List (FuncId × (List MV→Mem→Option Eff))} (h:iD P f F) (hl:∀ p∈l,iD P p.1 p.2):∀ p∈(f,F)::l,iD P p.1 p.2:=by
 intro p hp;rcases List.mem_cons.1 hp with rfl | hp
 ·exact h
 ·exact hl p hp
open Classical in
noncomputable def QQ {α:Type} (M:α→List MV→Mem→Prop) (R:α→Mem→MV→Mem→Prop):List MV→Mem→Option (MV→Mem→Prop):=fun args mem=>if h:∃ a,M a args mem then some (R (Classical.choose h) mem) else none
theorem QF {α:Type} {M:α→List MV→Mem→Prop} {R:α→Mem→MV→Mem→Prop} (uniq:∀ a b args mem,M a args mem→M b args mem→a=b) {a:α} {args:List MV} {mem:Mem} (h:M a args mem):QQ M R args mem=some (R a mem):=by
 have hx:∃ b,M b args mem:=⟨a,h⟩;unfold QQ;rw[dif_pos hx,uniq _ _ _ _ (aal hx) h]
theorem C1 {α:Type} {M:α→List MV→Mem→Prop} {R:α→Mem→MV→Mem→Prop} {args:List MV} {mem:Mem} {x:MV→Mem→Prop} (h:QQ M R args mem=some x):∃ a,M a args mem∧x=R a mem:=by
 unfold QQ at h
 split at h
 ·rename_i hx
  exact⟨_,aal hx,(Option.some.inj h).symm⟩
 ·cases h
end Go.Mini
namespace Go.Mini
open Go
set_option maxRecDepth 10000
set_option maxHeartbeats 2000000
noncomputable def xw:List Data→Option PRes:=FF (α:=Int × (List Int) × Int × (List Int)) (fun (s,l,s2,l2)=>([.agg [.int .i64 s,.sl (l.map aa),.int .i64 s2,.sl (l2.map aa)]]:List Data)) (fun (s,l,s2,l2)=>some (.same (.bool (s==0))))
theorem C9:∀ a b:Int × (List Int) × Int × (List Int),(fun (s,l,s2,l2)=>([.agg [.int .i64 s,.sl (l.map aa),.int .i64 s2,.sl (l2.map aa)]]:List Data)) a=(fun (s,l,s2,l2)=>([.agg [.int .i64 s,.sl (l.map aa),.int .i64 s2,.sl (l2.map aa)]]:List Data)) b→a=b:=by
  rintro⟨s1,l1,s21,l21⟩ ⟨s2,l2,s22,l22⟩ h;simp only[List.cons.injEq,Data.agg.injEq,Data.int.injEq,Data.sl.injEq] at h;exact YV h.1.1.2 (YV (af ai _ _ h.1.2.1) (YV h.1.2.2.1.2 (af ai _ _ h.1.2.2.2.1)))
@[go_sem] theorem PC (s:Int) (l:List Int) (s2:Int) (l2:List Int):xw [.agg [.int .i64 s,.sl (l.map aa),.int .i64 s2,.sl (l2.map aa)]]=some (.same (.bool (s==0))):=aX C9 (s,l,s2,l2)
theorem w_zero (T:Tab)  (s:Int) (l:List Int) (s2:Int) (l2:List Int) :
  wp T mf_linear_zero.body (bF mf_linear_zero.res (.same (.bool (s==0)))) ⟨ax [.dat (.agg [.int .i64 s,.sl (l.map aa),.int .i64 s2,.sl (l2.map aa)])],emp⟩:=by
 refine ap ?_;simp only[mf_linear_zero];refine qI ?_
 repeat' (intro h<;>simp only[h,go_sem,go_sem_proc,YW]<;>try refine qS ?_ ?_)
def mE (args:List MV) (mem:Mem):Option (Data × Key × Nat × Nat × Data) :=
 match args with
 | [.ptr k g 0,.dat (.agg [.int .i64 s,.sl l,.int .i64 s2,.sl l2]),.dat (.int .i64 e)]=>match mem k,mem 168004,mem 168006 with
  | some (g',[_,_,.dat (.bool c)]),none,none=>if g'=g∧k≠168004∧k≠168006 then some (.agg [.int .i64 s,.sl l,.int .i64 s2,.sl l2],k,g,2,.bool (c||e != 0)) else none
  | _,_,_=>none
 | _=>none
def Eb (j:Key):Prop:=j=168004∨j=168006
theorem M9 (T:Tab) (args:List MV) (mem:Mem) (r:Data) (k g i:Nat) (d:Data) (h:mE args mem=some (r,k,g,i,d)) :
  args.length≤19∧(∀ j,Eb j→mem j=none)∧¬ Eb k∧(∃ cs,mem k=some (g,cs)) ∧
   wp T mf_linear_matrix_note.body (qT mf_linear_matrix_note.res fun m mem'=>toD 6 emp m=some r∧∀ j,¬ Eb j→mem' j=az mem k g ((fG mem k).set i (.dat d)) j) ⟨ax args,mem⟩:=by
 unfold mE at h
 split at h
 ·rename_i k0 g0 s l s2 l2 e
  split at h
  ·rename_i g1 a b c hm h4 h6
   split at h
   ·rename_i hg
    obtain⟨rfl,n4,n6⟩:=hg;simp only[Option.some.injEq,Prod.mk.injEq] at h;obtain⟨rfl,rfl,rfl,rfl,rfl⟩:=h;refine⟨by simp,?_,?_,⟨_,hm⟩,?_⟩
    ·rintro j (rfl | rfl)
     ·exact h4
     ·exact h6
    ·rintro (h | h)
     ·exact n4 h
     ·exact n6 h
    ·have hfin:∀ x:Bool,fG mem k0=[a,b,.dat (.bool c)]:=fun _=>by simp only[fG,hm]
     have n4':(k0=168004)=False:=eq_false n4;have n6':(k0=168006)=False:=eq_false n6;have n4s:(168004=k0)=False:=eq_false (Ne.symm n4);have n6s:(168006=k0)=False:=eq_false (Ne.symm n6);refine ap ?_;simp only[mf_linear_matrix_note]
     cases c
     ·simp only[go_sem,go_sem_proc,YW,hm,h4,h6,n4',n6',n4s,n6s]
      repeat' (first|refine qS ?_ ?_|fail)<;>intro h<;>simp only[h,go_sem,go_sem_proc,YW,hm,h4,h6,n4',n6',n4s,n6s]
      refine⟨_,rfl,by first | rfl | simp [go_sem,toD],fun j hj=>?_⟩
      have j4:j≠168004:=fun h=>hj (.inl h)
      have j6:j≠168006:=fun h=>hj (.inr h)
      by_cases hjk:j=k0<;>simp [az,fG,hm,j4,j6,hjk,n4,n6,bne]
     ·simp only[go_sem,go_sem_proc,YW,hm,h4,h6,n4',n6',n4s,n6s]
      repeat' (first|refine qS ?_ ?_|fail)<;>intro h<;>simp only[h,go_sem,go_sem_proc,YW,hm,h4,h6,n4',n6',n4s,n6s]
      refine⟨_,rfl,by first | rfl | simp [go_sem,toD],fun j hj=>?_⟩
      have j4:j≠168004:=fun h=>hj (.inl h)
      have j6:j≠168006:=fun h=>hj (.inr h)
      by_cases hjk:j=k0<;>simp [az,fG,hm,j4,j6,hjk,n4,n6,bne]
   ·cases h
  ·cases h
 ·cases h
abbrev MR:=Nat × Nat × List aF
def bZ (N:Nat) (rows:List MR):List MV:=rows.map fun x => .ref (x.1+900000) x.2.1 4 0 (N+1)
structure MatAt (go N:Nat) (rows:List MR) (bad:Bool) (mem:Mem):Prop where
 m:mem 129015=some (0,[.ref 129035 go 1 0 N,.dat (.int .i64 N),.dat (.bool bad)])
 o:mem 129035=some (go,bZ N rows)
 r:∀ x∈rows,mem (x.1+900000)=some (x.2.1,aA ad x.2.2)
structure MatOK (N:Nat) (rows:List MR):Prop where
 len:rows.length=N
 nd:(rows.map (·.1)).Nodup
 row:∀ x∈rows,x.2.2.length=N+1∧∀ f∈x.2.2,okF f
def foreign (k:Nat):Prop:=k<900000∧k≠129015∧k≠129035∧k≠148008∧k≠148010∧k≠148013
def PS (mem0:Mem) (go N:Nat) (rows:List MR) (bad:Bool) (mem:Mem):Prop:=MatAt go N rows bad mem∧∀ k,foreign k→mem k=mem0 k
section
variable {mem0 mem:Mem} {go N:Nat} {rows:List MR} {bd:Bool}
theorem PS.flag (b:Bool) (h:PS mem0 go N rows bd mem):PS mem0 go N rows b (az mem 129015 0 [.ref 129035 go 1 0 N,.dat (.int .i64 N),.dat (.bool b)]):=by
 refine⟨⟨by simp [az],by simp [az,h.1.o],fun x hx=>?_⟩,fun k hk=>?_⟩
 ·rw[←h.1.r x hx]
  exact if_neg (show ¬ ((x.1+900000:Nat)=129015) by omega)
 ·rw[←h.2 k hk]
  exact if_neg hk.2.1
theorem PS.own {k g:Nat} {cs:List MV} (hk:k=148008∨k=148010∨k=148013) (h:PS mem0 go N rows bd mem):PS mem0 go N rows bd (az mem k g cs):=by
 have hne:∀ j:Nat,j≠k→az mem k g cs j=mem j:=fun j hj=>if_neg hj
 refine⟨⟨by rw[hne _ (by omega)];exact h.1.m,by rw[hne _ (by omega)];exact h.1.o,fun x hx=>by rw[hne _ (by omega)];exact h.1.r x hx⟩,fun j hj=>?_⟩
 have:=hj.2;rw[hne _ (by omega)];exact h.2 j hj
theorem PS.set {i:Nat} {x:MR} (hok:MatOK N rows) (hi:rows[i]?=some x) (l:List aF) (h:PS mem0 go N rows bd mem):PS mem0 go N (rows.set i (x.1,x.2.1,l)) bd (az mem (x.1+900000) x.2.1 (aA ad l)):=by
 have hne:∀ j:Nat,j≠x.1+900000→az mem (x.1+900000) x.2.1 (aA ad l) j=mem j:=fun j hj=>if_neg hj
 obtain⟨hlt,hxi⟩:=List.getElem?_eq_some_iff.1 hi;refine⟨⟨by rw[hne _ (by omega)];exact h.1.m,?_,fun y hy=>?_⟩,fun j hj=>?_⟩
 ·rw[hne _ (by omega),h.1.o]
  congr 2
  unfold bZ;apply aam;intro j;rw[Y2,Y2,aan]
  by_cases hij:i=j
  ·subst hij
   rw[if_pos rfl,if_pos hlt,hi]
   rfl
  ·rw[if_neg hij]
 ·obtain⟨j,hj⟩:=List.mem_iff_getElem?.1 hy
  rw[aan] at hj
  by_cases hij:i=j
  ·subst hij
   rw[if_pos rfl,if_pos hlt] at hj
   cases hj;simp [az]
  ·rw[if_neg hij] at hj
   have hne2:y.1≠x.1:=by
    intro he;have h1:(rows.map (·.1))[j]?=some y.1:=by rw[Y2,hj];rfl
    have h2:(rows.map (·.1))[i]?=some y.1:=by rw[Y2,hi,he];rfl
    have hl:i<(rows.map (·.1)).length:=by rw[YX];exact hlt
    exact hij ((aao hl hok.nd).1 (h2.trans h1.symm))
   rw[hne (y.1+900000) (by omega)];exact h.1.r y (aai hj)
 ·have:=hj.1
  rw[hne j (by omega)];exact h.2 j hj
theorem PS.swap {i j:Nat} {a b:MR} (hi:rows[i]?=some a) (hj:rows[j]?=some b) (h:PS mem0 go N rows bd mem):PS mem0 go N ((rows.set i b).set j a) bd (az (az mem 129035 go (bZ N (rows.set i b))) 129035 go (bZ N ((rows.set i b).set j a))):=by
 have hne:∀ k:Nat,k≠129035→az (az mem 129035 go (bZ N (rows.set i b))) 129035 go (bZ N ((rows.set i b).set j a)) k=mem k:=fun k hk=>by simp [az,hk]
 refine⟨⟨by rw[hne _ (by omega)];exact h.1.m,by simp [az],fun x hx=>?_⟩,fun k hk=>?_⟩
 ·rw[hne _ (by omega)]
  apply h.1.r;rcases aak hx with hx | rfl
  ·rcases aak hx with hx | rfl
   ·exact hx
   ·exact aai hj
  ·exact aai hi
 ·rw[hne _ hk.2.2.1]
  exact h.2 k hk
theorem MatOK.set {i:Nat} {x:MR} (hok:MatOK N rows) (hi:rows[i]?=some x) {l:List aF} (hl:l.length=N+1) (hf:∀ f∈l,okF f):MatOK N (rows.set i (x.1,x.2.1,l)):=by
 obtain⟨hlt,hxi⟩:=List.getElem?_eq_some_iff.1 hi;refine⟨by rw[Y9];exact hok.len,?_,fun y hy=>?_⟩
 ·have:(rows.set i (x.1,x.2.1,l)).map (·.1)=rows.map (·.1):=by
   rw[aap];apply aam;intro j;rw[aan]
   by_cases hij:i=j
   ·subst hij
    rw[if_pos rfl,YX,if_pos hlt,Y2,hi];rfl
   ·rw[if_neg hij]
  rw[this];exact hok.nd
 ·rcases aak hy with hy | rfl
  ·exact hok.row y hy
  ·exact⟨hl,hf⟩
theorem DE {α:Type} {l:List α} {i j:Nat} {a b:α} (hi:l[i]?=some a) (hj:l[j]?=some b) (h:l.Nodup):((l.set i b).set j a).Nodup:=by
 obtain⟨hil,hia⟩:=List.getElem?_eq_some_iff.1 hi;obtain⟨hjl,hjb⟩:=List.getElem?_eq_some_iff.1 hj
 have main:∀ p q,p<q→q<l.length→((l.set i b).set j a)[p]?≠((l.set i b).set j a)[q]?:=by
  intro p q hpq hq;rw[aan,aan,aan,aan];have inj:∀ p q,p<l.length→l[p]?=l[q]?→p=q:=fun p q hp he=>(aao hp h).1 he
  simp only[Y9]
  by_cases h1:j=p
  ·subst h1
   have h2:¬ j=q:=by omega
   rw[if_pos rfl,if_pos hjl,if_neg h2]
   by_cases h3:i=q
   ·subst h3
    rw[if_pos rfl,if_pos hil];intro he;rw[←hi,←hj] at he;have:=inj _ _ hil he;omega
   ·rw[if_neg h3,←hi]
    intro he;exact h3 (inj _ _ hil he)
  ·rw[if_neg h1]
   by_cases h3:i=p
   ·subst h3
    rw[if_pos rfl,if_pos hil]
    by_cases h2:j=q
    ·subst h2
     rw[if_pos rfl,if_pos hjl,←hi,←hj];intro he;have:=inj _ _ hjl he;omega
    ·rw[if_neg h2,if_neg (by omega),←hj]
     intro he;exact h2 (inj _ _ hjl he)
   ·rw[if_neg h3]
    by_cases h2:j=q
    ·subst h2
     rw[if_pos rfl,if_pos hjl,←hi];intro he;exact h3 (inj _ _ hil he.symm)
    ·rw[if_neg h2]
     by_cases h4:i=q
     ·subst h4
      rw[if_pos rfl,if_pos hil,←hj];intro he;exact h1 (inj _ _ hjl he.symm)
     ·rw[if_neg h4]
      intro he;have:=inj _ _ (by omega) he;omega
 refine List.pairwise_iff_getElem.2 fun p q hp hq hpq he=>?_
 simp only[Y9] at hp hq;refine main p q hpq hq ?_;rw[YT (by simpa using hp),YT (by simpa using hq),he]
theorem MatOK.swap {i j:Nat} {a b:MR} (hok:MatOK N rows) (hi:rows[i]?=some a) (hj:rows[j]?=some b):MatOK N ((rows.set i b).set j a):=by
 refine⟨by rw[Y9,Y9];exact hok.len,?_,fun x hx=>?_⟩
 ·rw[aap,aap]
  exact DE (by rw[Y2,hi];rfl) (by rw[Y2,hj];rfl) hok.nd
 ·rcases aak hx with hx | rfl
  ·rcases aak hx with hx | rfl
   ·exact hok.row x hx
   ·exact hok.row _ (aai hj)
  ·exact hok.row _ (aai hi)
end
theorem Sl {l:List aF} {i:Nat} {a b c d} (h:l[i]?=some ((a,b),(c,d))):cut (aA ad l) (i*4) 4=some [.dat (.int .i64 a),.dat (.sl (b.map aa)),.dat (.int .i64 c),.dat (.sl (d.map aa))]:=by
 have:=uB co h (f:=0) (n:=4) (by omega);rw[aaq] at this;rw[this]
 rfl
theorem R7 {N:Nat} {rows:List MR} {i:Nat} {x:MR} (h:rows[i]?=some x):cut (bZ N rows) i 1=some [.ref (x.1+900000) x.2.1 4 0 (N+1)]:=by
 obtain⟨hlt,rfl⟩:=List.getElem?_eq_some_iff.1 h;unfold cut bZ;rw[if_pos (by rw[YX];omega),←List.map_drop,ZK hlt]
 rfl
theorem IK {l m:List aF} (h:aA ad l=aA ad m):l=m:=te co de _ _ h (by omega)
def gY (f:aF):Bool:=f.1.1==0
def cG (x:MR) (c:Nat):aF:=x.2.2.getD c bV
def cr (rows:List MR) (r c:Nat):Nat:=r+(rows.drop r).findIdx fun x => !gY (cG x c)
def cT (fac:aF):List aF→List aF→Bool→List aF × Bool
 | f::fs,p::ps,false=>((nm f (lZ fac p).1).1::(cT fac fs ps ((lZ fac p).2 != 0||(nm f (lZ fac p).1).2 != 0)).1,(cT fac fs ps ((lZ fac p).2 != 0||(nm f (lZ fac p).1).2 != 0)).2)
 | fs,_,b=>(fs,b)
def bO (prow:List aF) (r c:Nat):Nat→List MR→Bool→List MR × Bool
 | _,[],bad=>([],bad)
 | i,x::xs,bad=>if (i==r||gY (cG x c))=true then (x::(bO prow r c (i+1) xs bad).1,(bO prow r c (i+1) xs bad).2) else
  ((x.1,x.2.1,(cT (cG x c) x.2.2 prow bad).1)::(bO prow r c (i+1) xs (cT (cG x c) x.2.2 prow bad).2).1,(bO prow r c (i+1) xs (cT (cG x c) x.2.2 prow bad).2).2)
def cw (by':aF) (l:List aF):List aF × Bool:=(l.map fun f=>(iY f by').1,l.any fun f=>(iY f by').2 != 0)
def fk (rows:List MR) (i:Nat):MR:=rows.getD i (0,0,[])
def swapped (rows:List MR) (i j:Nat):List MR:=(rows.set i (fk rows j)).set j (fk rows i)
def divided (rows:List MR) (r c:Nat):List MR:=rows.set r ((fk rows r).1,(fk rows r).2.1,(cw (cG (fk rows r) c) (fk rows r).2.2).1)
def gR (rows:List MR) (r c:Nat):Bool × List MR × Bool :=
 if cr rows r c=rows.length then (true,rows,false) else
  (false,bO (cw (cG (fk (swapped rows r (cr rows r c)) r) c) (fk (swapped rows r (cr rows r c)) r).2.2).1 r c 0 (divided (swapped rows r (cr rows r c)) r c)
   (cw (cG (fk (swapped rows r (cr rows r c)) r) c) (fk (swapped rows r (cr rows r c)) r).2.2).2)
theorem zk {rows:List MR} {r c i:Nat} {x:MR} (hx:rows[i]?=some x) (hr:r≤i) (hz:∀ j y,r≤j→j<i→rows[j]?=some y→gY (cG y c)=true) (h:gY (cG x c)=false):cr rows r c=i:=by
 unfold cr;obtain⟨hlt,hxi⟩:=List.getElem?_eq_some_iff.1 hx
 have:(rows.drop r).findIdx (fun x => !gY (cG x c))=i-r:=by
  rw[List.findIdx_eq (by rw[aar];omega)];refine⟨?_,fun j hj=>?_⟩
  ·rw[aas]
   have:rows[r+(i-r)]?=some x:=by rw[show r+(i-r)=i by omega];exact hx
   rw[(List.getElem?_eq_some_iff.1 this).2,h];rfl
  ·rw[aas]
   have:=hz (r+j) _ (by omega) (by omega) (YT (by omega));rw[this];rfl
 omega
theorem C2 {rows:List MR} {r c:Nat} (hr:r≤rows.length) (hz:∀ j y,r≤j→rows[j]?=some y→gY (cG y c)=true):cr rows r c=rows.length:=by
 unfold cr
 have:(rows.drop r).findIdx (fun x => !gY (cG x c))=(rows.drop r).length:=by
  rw[List.findIdx_eq_length];intro y hy;obtain⟨j,hj⟩:=List.mem_iff_getElem?.1 hy;rw[aat] at hj;rw[hz (r+j) y (by omega) hj];rfl
 rw[this,aar];omega
set_option maxHeartbeats 4000000
theorem et {x:Rat} (h:cg x):okF (aj x):=⟨eT h.1,eT (vg h)⟩
theorem fx:okF bV:=⟨by simp [bV],by simp [bV]⟩
theorem KI (p q:Raw):okF (fM p q).1:=by
 unfold fM
 split
 ·rename_i h
  rw[ZW] at h;obtain⟨x,hx,e1⟩:=(bj _).1 h.1;obtain⟨y,hy,e2⟩:=(bj _).1 h.2
  split
  ·exact fx
  ·rw[e1,e2,aS,aS]
   exact et (mw hx hy)
 ·exact fx
theorem s8 (p q:Raw × Int):okF (ng p q).1:=by
 unfold ng
 split
 ·split
  ·exact KI _ _
  ·exact fx
 ·exact fx
theorem Lc (a b:aF):okF (sq a b).1:=by
 unfold sq
 split
 ·split
  ·exact s8 _ _
  ·exact fx
 ·exact fx
theorem EV (a b:aF):okF (nm a b).1:=by
 unfold nm
 split
 ·split
  ·exact Lc _ _
  ·exact fx
 ·exact fx
theorem LM (a b:aF):okF (lZ a b).1:=by
 unfold lZ
 split
 ·split
  ·exact s8 _ _
  ·exact fx
 ·exact fx
theorem ER (a b:aF):okF (iY a b).1:=by
 unfold iY
 split
 ·split
  ·split
   ·exact fx
   ·exact s8 _ _
  ·exact fx
 ·exact fx
theorem tu {x:MR} {c:Nat} {f:aF} (h:x.2.2[c]?=some f):cG x c=f:=by
 unfold cG;rw[YS,h]
 rfl
theorem kR {rows:List MR} {i:Nat} {x:MR} (h:rows[i]?=some x):fk rows i=x:=by
 unfold fk;rw[YS,h]
 rfl
theorem zT {l:List aF} {k:Nat} (h:k<l.length):(k*4+4≤(aA ad l).length)=True:=eq_true (by rw[dq co];omega)
theorem z9 {l:List aF} {k:Nat} {a b c d} (h:l[k]?=some ((a,b),(c,d))):aau 4 (Zm (k*4) (aA ad l))=[.dat (.int .i64 a),.dat (.sl (b.map aa)),.dat (.int .i64 c),.dat (.sl (d.map aa))]:=by
 have:=Sl h;unfold cut at this;rw[if_pos (by rw[dq co];have:=(List.getElem?_eq_some_iff.1 h).1;omega)] at this;exact Option.some.inj this
theorem KE {l:List aF} {k:Nat} (h:k<l.length) (a:Int) (b:List Int) (c:Int) (d:List Int) :
  aau (k*4) (aA ad l)++[MV.dat (.int .i64 a),.dat (.sl (b.map aa)),.dat (.int .i64 c),.dat (.sl (d.map aa))]++Zm (k*4+4) (aA ad l)=aA ad (l.set k ((a,b),(c,d))):=by
 rw[←zG co h]
 rfl
theorem B4 {N:Nat} {rows:List MR} {i:Nat} (h:i<rows.length):(i+1≤(bZ N rows).length)=True:=eq_true (by unfold bZ;rw[YX];omega)
theorem FJ {N:Nat} {rows:List MR} {i:Nat} {x:MR} (h:rows[i]?=some x):aau 1 (Zm i (bZ N rows))=[.ref (x.1+900000) x.2.1 4 0 (N+1)]:=by
 have:=R7 (N:=N) h;unfold cut at this;rw[if_pos (by unfold bZ;rw[YX];have:=(List.getElem?_eq_some_iff.1 h).1;omega)] at this;exact Option.some.inj this
theorem Rm {N:Nat} {rows:List MR} {i:Nat} (h:i<rows.length) (b:MR):aau i (bZ N rows)++[MV.ref (b.1+900000) b.2.1 4 0 (N+1)]++Zm (i+1) (bZ N rows)=bZ N (rows.set i b):=by
 unfold bZ;rw[aap,List.set_eq_take_append_cons_drop,if_pos (by rw[YX];exact h),Z5]
 rfl
theorem oV (fac:aF):∀ (l p:List aF) (b:Bool),(cT fac l p b).1.length=l.length
 | [],_,_=>by simp [cT]
 | f::fs,[],b=>by cases b<;>simp [cT]
 | f::fs,p::ps,true=>by simp [cT]
 | f::fs,p::ps,false=>by simp [cT,oV fac fs ps]
theorem pn (fac:aF) (l p:List aF):cT fac l p true=(l,true):=by
 cases l<;>cases p<;>simp [cT]
theorem tp (fac:aF) (p:List aF) (b:Bool):cT fac [] p b=([],b):=by
 cases b<;>simp [cT]
theorem xU {α:Type} (f:α→α) {l:List α} {k:Nat} {x:α} (h:l[k]?=some x):((l.take k).map f++l.drop k).set k (f x)=(l.take (k+1)).map f++l.drop (k+1):=by
 obtain⟨hlt,hx⟩:=List.getElem?_eq_some_iff.1 h;have hl:((l.take k).map f).length=k:=by rw[YX,aav];omega
 rw[List.set_append_right _ _ (by omega),hl,aaw,ZK hlt,List.set_cons_zero,aah,h,List.map_append,Z5]
 rfl
theorem vE {α:Type} (f:α→α) {l:List α} {k:Nat}:((l.take k).map f++l.drop k)[k]?=l[k]?:=by
 rcases Y3 k l.length with h | h
 ·have hl:((l.take k).map f).length=k:=by rw[YX,aav];omega
  rw[List.getElem?_append_right (by omega),hl,aaw,aat,aaq]
 ·rw[YU h,YU (by rw[Z2,YX,aav,aar];omega)]
theorem uW {α:Type} {rows:List α} {r i:Nat} {x xr:α} (hx:rows[i]?=some x) (hxr:rows[r]?=some xr):((rows.set r x).set i xr)[r]?=some x:=by
 have h1:=(List.getElem?_eq_some_iff.1 hx).1;have h2:=(List.getElem?_eq_some_iff.1 hxr).1;rw[aan,aan,Y9]
 by_cases h:i=r
 ·subst h
  rw[hx] at hxr
  cases hxr;rw[if_pos rfl,if_pos h1]
 ·rw[if_neg h,if_pos rfl,if_pos h2]
theorem tC {α:Type} {l:List α} {i:Nat} {x:α} (h:l[i]?=some x):l.set i x=l:=by
 obtain⟨hlt,hx⟩:=List.getElem?_eq_some_iff.1 h;apply aam;intro j;rw[aan]
 by_cases hij:i=j
 ·subst hij
  rw[if_pos rfl,if_pos hlt,h]
 ·rw[if_neg hij]
theorem Sx (a b:Nat):(!(a+900000==129015)||decide (2<b*4))=true:=by
 have:(a+900000==129015)=false:=by simp
 rw[this];rfl
theorem lK:foreign 168004:=by unfold foreign;omega
theorem lD:foreign 168006:=by unfold foreign;omega
def MCode.sub:MCode→List Nat→MCode
 | .seq a _,0::p=>a.sub p
 | .seq _ b,_::p=>b.sub p
 | .cond _ a _,0::p=>a.sub p
 | .cond _ _ b,_::p=>b.sub p
 | .block _ c,_::p=>c.sub p
 | .ghost _ c,_::p=>c.sub p
 | .loop c,_::p=>c.sub p
 | c,_=>c
def QO (f:aF):List MV:=[.dat (.int .i64 f.1.1),.dat (.sl (f.1.2.map aa)),.dat (.int .i64 f.2.1),.dat (.sl (f.2.2.map aa))]
end Go.Mini
