/- A part of the proof. -/
import Derived.Test.YtdbkjjoedjfmpaaM04
set_option linter.unusedSimpArgs false
set_option linter.unusedVariables false
open Nat renaming mod_eq_of_lt → Wo, lt_of_le_of_lt → Ww, le_refl → Wx, zero_le → WA, mul_one → WG, add_assoc → WQ, pow_succ → Xf, min_eq_left → Xu, pow_le_pow_right → Xz, mul_le_mul_left → XB, le_trans → XM, gcd → XN, eq_zero_or_pos → XO, gcd_comm → XP
open Int renaming pow_succ → Wp, mul_add → Wq, mul_assoc → Wr, mul_comm → Ws, emod_add_mul_ediv → Wt, mul_sub → Wu, mul_nonneg → WJ, mul_le_mul → WK, pow_add → WR, zero_add → WS, sub_zero → WT, add_mul → WU, natCast_ediv → WW, add_comm → WX, add_mul_ediv_left → WY, ediv_eq_zero_of_lt → WZ, natCast_emod → W0, add_mul_emod_self_left → W1, emod_eq_of_lt → W2, natCast_zero → W3, cast_ofNat_Int → W4, toNat_natCast → W5, toNat → W6, ediv_nonneg → W7, ediv_lt_of_lt_mul → W8, mul_le_mul_of_nonneg_right → W9, tdiv_eq_ediv_of_nonneg → Xa, tmod_eq_emod_of_nonneg → Xb, emod_nonneg → Xc, emod_lt_of_pos → Xd, mul_left_comm → Xe, mul_zero → Xi, natCast_pow → Xj, mul_le_mul_of_nonneg_left → Xk, add_zero → Xl, lt_trichotomy → Xm, one_mul → Xo, sub_mul → Xp, mul_right_comm → Xq, pow_pos → Xy, natCast_mul → XA, sign_mul_natAbs → XC, natAbs_mul → XE, sign_eq_one_of_pos → XF, sign_neg → XG, sign_eq_neg_one_of_neg → XH, sign_trichotomy → XL
open Prod renaming ext → Wv
open Bool renaming false_eq_true → Wy, and_eq_true → XD, and_false → XJ, false_and → XK
open List renaming length_map → Wz, drop_eq_getElem_cons → WC, drop_set_of_lt → WD, getElem_set_self → WE, getElem?_eq_getElem → WF, getElem?_map → WH, take_of_length_le → WI, replicate → WL, getElem?_drop → WM, length_set → WN, replicate_succ → WO, mem_replicate → WP, drop_zero → WV, append_assoc → Xg, append_inj → Xh, drop_drop → Xr, take_append_drop → Xs, length_drop → Xt, mem_of_mem_drop → Xv, mem_singleton → Xw, length_take → Xx, map_nil → XI
open Decidable renaming em → WB
namespace Go.Mini
open Go
set_option maxRecDepth 10000
set_option maxHeartbeats 1000000
theorem EX (n:Int):bits .and .i64 (n / 1048576) 1=n / 1048576 % 2:=by
 generalize n / 1048576=m;have h2:(1:Int)=((2^1-1:Nat):Int):=by decide
 have h1:m % 18446744073709551616 % 2=m % 2:=by omega
 obtain⟨a,ha⟩:∃ a:Nat,(a:Int)=m % 18446744073709551616:=⟨(m % 18446744073709551616).toNat,by omega⟩
 have e:BitVec.ofInt 64 m=BitVec.ofNat 64 a:=by
  apply BitVec.eq_of_toInt_eq;rw[BitVec.toInt_ofInt,BitVec.toInt_ofNat',ha];simp [Int.bmod_def,Int.emod_emod_of_dvd]
 have e2:bits .and .i64 m 1=bits .and .i64 (a:Int) 1:=by
  simp only[bits];rw[show IntKind.i64.bits=64 from rfl,e,BitVec.ofInt_natCast]
 rw[e2,←h1,←ha];have ha64:a<2^64:=by omega
 conv=>lhs;rw[h2]
 simp only[bits,BitVec.ofInt_natCast,BitVec.toNat_and,BitVec.toNat_ofNat,show IntKind.i64.bits=64 from rfl,Wo ha64];rw[show (2^1-1:Nat) % 2^64=2^1-1 by decide,Nat.and_two_pow_sub_one_eq_mod,ak _ (by omega) (by omega)]
 omega
theorem BY (o:List Int) (j:Nat) (d:Int) (h:j<o.length):vl (o.set j d)=vl o+1048576^j*(d-o[j]):=by
 induction o generalizing j with
 | nil=>simp at h
 | cons x r ih =>
  cases j with
  | zero=>simp [vl];omega
  | succ j =>
   simp only[List.set_cons_succ,gQ,List.getElem_cons_succ,Wp];rw[ih j (by simpa using h),Wq,←Wr,Ws 1048576 (1048576^j)];omega
theorem kf {o:List Int} (h:isD o) (j:Nat) {d:Int} (hd:0≤d∧d<1048576):isD (o.set j d):=by
 intro x hx;rcases List.mem_or_eq_of_mem_set hx with h1 | h1
 ·exact h x h1
 ·rw[h1];exact hd
theorem Jv (p vo va vb c a b:Int) (h:vo=va-vb+p*c):vo+p*((a-c-b) % 1048576)=va+p*a-(vb+p*b)-p*1048576*((a-c-b) / 1048576):=by
 have h1:=Wt (a-c-b) 1048576
 have h2:p*((a-c-b) % 1048576)+p*1048576*((a-c-b) / 1048576)=p*(a-c-b):=by
  rw[Wr,←Wq,h1]
 have h3:p*(a-c-b)=p*a-p*c-p*b:=by rw[Wu,Wu]
 omega
noncomputable def D6:List Data→Option PRes:=FF (α:=Nat × Nat) (fun (x,y)=>([digs x,digs y]:List Data)) (fun (x,y)=>aH ((dg x).length≤100000∧y≤x) (.own 1 ((dg (x-y)).map aa)))
theorem Gl:∀ a b:Nat × Nat,(fun (x,y)=>([digs x,digs y]:List Data)) a=(fun (x,y)=>([digs x,digs y]:List Data)) b→a=b:=by
  rintro⟨x1,y1⟩ ⟨x2,y2⟩ h;simp only[List.cons.injEq,digs,Data.sl.injEq] at h;exact Wv (eU (af aj _ _ h.1)) (eU (af aj _ _ h.2.1))
@[go_sem] theorem uJ (x:Nat) (y:Nat) (hc:(dg x).length≤100000∧y≤x):D6 [digs x,digs y]=some (.own 1 ((dg (x-y)).map aa)):=(aX Gl (x,y)).trans (an hc _)
theorem QY (T:Tab) (bp:T bP=mkE mV) (bb:T cv=yT nj jL) (x:Nat) (y:Nat) (hc:(dg x).length≤100000∧y≤x) :
  wp T mf_big_sub.body (bF mf_big_sub.res (.own 1 ((dg (x-y)).map aa))) ⟨ax [.dat (digs x),.dat (digs y)],emp⟩:=by
 refine ap ?_;simp only[mf_big_sub];obtain⟨hx,hyx⟩:=hc;have hdx:=eD x;have hdy:=eD y;have hvx:=f7 x;have hvy:=f7 y
 have hly:(dg y).length≤(dg x).length:=by
  rw[dg_len];exact Ww hyx (dg_len.1 (Wx _))
 generalize ha:dg x=a at *;generalize hb:dg y=b at *;have hla:a.length≤1000000:=by omega
 simp only[go_sem,go_sem_proc,Wy,bp,bb,digs,ha,hb,hla,Wz]
 refine ae [1,5,12] [] (fun (i,c,o) tm mem=>i≤a.length∧(o:List Int).length=a.length∧isD o∧o.drop i=a.drop i∧(c=0∨c=1)∧vl (o.take i)=vl (a.take i)-vl (b.take i)+1048576^i*c∧tm 13 = .dat (.int .i64 (i:Nat))∧tm 6 = .dat (.int .i64 c)∧mem 173010=some (0,aA aa o))
  (fun (i,_)=>a.length-i) (0,0,a) (by refine⟨WA _,rfl,hdx,rfl,.inl rfl,by simp [vl],?_,?_,?_⟩<;>rfl) ?_
 intro vs ms hvs hms;simp only[go_sem,go_sem_proc,Wy,bp,bb,digs,ha,hb,Wz] at hvs hms;subst hvs hms;rintro⟨i,c,o⟩ tm mem hk-⟨hi,ho,hdo,hdr,hc01,hvi,h13,h6,hm⟩;simp only[go_sem,go_sem_proc,Wy,bp,bb,List.cons.injEq] at hk;obtain⟨h1,h5,h12⟩:=hk;rcases WB (i<a.length) with hlt | hge
 ·have hio:i<o.length:=by omega
  have hoi:o[i]=a[i]:=by
   have h1:=WC hio;have h2:=WC hlt;rw[hdr,h2] at h1;exact (List.cons.inj h1).1.symm
  have hai:=dL hdx i hlt;have hw2:IntKind.i64.wrap ((i:Int)+1)=((i+1:Nat):Int):=by rw[ak _ (by omega) (by omega)];rfl
  have hio':i+1≤(aA aa o).length:=by rw[fc];omega
  have hget:=pN o i hio;rw[hoi] at hget;have hw3:IntKind.i64.wrap (a[i]-c)=a[i]-c:=ak _ (by omega) (by omega);have hfold:=fun d=>gY o i d hio
  have fin:∀ bi:Int,0≤bi→bi<1048576→vl (b.take (i+1))=vl (b.take i)+1048576^i*bi →
    ∃ i':Nat × Int × List Int,a.length-i'.1<a.length-i∧i'.1≤a.length∧i'.2.2.length=a.length∧isD i'.2.2∧i'.2.2.drop i'.1=a.drop i'.1∧(i'.2.1=0∨i'.2.1=1)∧vl (i'.2.2.take i'.1)=vl (a.take i'.1)-vl (b.take i'.1)+1048576^i'.1*i'.2.1 ∧
     MV.dat (Data.int .i64 ((i+1:Nat):Int))=MV.dat (Data.int .i64 (i'.1:Int))∧MV.dat (Data.int .i64 ((a[i]-c-bi) / 1048576 % 2))=MV.dat (Data.int .i64 i'.2.1)∧some (0,aA aa (o.set i ((a[i]-c-bi) % 1048576)))=some (0,aA aa i'.2.2):=by
   intro bi hb0 hb1 hvb;have hq:(a[i]-c-bi) / 1048576=0∨(a[i]-c-bi) / 1048576 = -1:=by omega
   refine⟨(i+1,(a[i]-c-bi) / 1048576 % 2,o.set i ((a[i]-c-bi) % 1048576)),by dsimp only;omega,by dsimp only;omega,by simp [ho],kf hdo i (by omega),?_,by dsimp only;omega,?_,rfl,rfl,rfl⟩
   ·dsimp only
    rw[WD (by omega)];have h1:=WC hio;have h2:=WC hlt;rw[hdr,h2] at h1;exact (List.cons.inj h1).2.symm
   ·dsimp only
    rw[bc _ _ (by simpa using hio),kT,bc a i hlt,hvb,Wp];simp only[WE];rw[Jv _ _ _ _ _ _ _ hvi];rcases hq with e | e<;>rw[e]<;>simp
  have hdec2:decide ((i:Int)<(a.length:Int))=true:=decide_eq_true (by omega);rcases WB (i<b.length) with hlb' | hgb'
  ·have hgb:b[i]?=some b[i]:=WF hlb'
   have hbi:=dL hdy i hlb';have hw4:IntKind.i64.wrap (a[i]-c-b[i])=a[i]-c-b[i]:=ak _ (by omega) (by omega);have hdec:decide ((i:Int)<(b.length:Int))=true:=decide_eq_true (by omega);refine qI ?_
   repeat' (intro h<;>simp only[h,go_sem,go_sem_proc,Wy,bp,bb,h1,h5,h12,h13,h6,hm,hgb,hw2,hw3,hw4,hdec,hdec2,hlt,hio',hget,hfold,d7,EX,fdivm,aa,WG,Wz,WH,List.cons.injEq,show ¬ ((20:Int)<0) by omega]<;>try refine qS ?_ ?_)
   exact fin b[i] hbi.1 hbi.2 (bc b i hlb')
  ·have hdec:decide ((i:Int)<(b.length:Int))=false:=decide_eq_false (by omega)
   refine qI ?_
   repeat' (intro h<;>simp only[h,go_sem,go_sem_proc,Wy,bp,bb,h1,h5,h12,h13,h6,hm,hw2,hw3,hdec,hdec2,hlt,hio',hget,hfold,d7,EX,fdivm,aa,WG,Wz,WH,List.cons.injEq,show ¬ ((20:Int)<0) by omega]<;>try refine qS ?_ ?_)
   have:=fin 0 (by omega) (by omega) (by rw[WI (by omega),WI (by omega)];simp)
   simpa using this
 ·obtain rfl:i=a.length:=by omega
  have hdec2:decide ((a.length:Int)<(a.length:Int))=false:=decide_eq_false (by omega);rw[WI (by omega),WI (by omega),WI (by omega),hvx,hvy] at hvi
  have hvo:vl o=((x-y:Nat):Int):=by
   have h1:=qv hdo;rw[ho] at h1;rcases hc01 with rfl | rfl
   ·rw[hvi];omega
   ·omega
  have hG:=rU o 173010 0 mem hm (by omega);rw[ho] at hG;have hO:=ul hm hdo hvo;refine qI ?_
  repeat' (intro h<;>simp only[h,go_sem,go_sem_proc,Wy,bp,bb,h1,h5,h12,h13,h6,hm,hdec2,hG,hO,Wz]<;>try refine qS ?_ ?_)
theorem zT (p vo V c x y oj:Int) (h:vo+p*c=V):vo+p*((oj+x*y+c) % 1048576-oj)+p*1048576*((oj+x*y+c) / 1048576)=V+p*(x*y):=by
 have h1:=Wt (oj+x*y+c) 1048576
 have h2:p*((oj+x*y+c) % 1048576)+p*1048576*((oj+x*y+c) / 1048576)=p*(oj+x*y+c):=by
  rw[Wr,←Wq,h1]
 have h3:p*(oj+x*y+c)=p*oj+p*(x*y)+p*c:=by rw[Wq,Wq]
 rw[Wu];omega
theorem wn {o x y c:Int} (ho:0≤o∧o<1048576) (hx:0≤x∧x<1048576) (hy:0≤y∧y<1048576) (hc:0≤c∧c<1048576) :
  0≤x*y∧x*y≤1099509530625∧0≤(o+x*y+c) / 1048576∧(o+x*y+c) / 1048576<1048576:=by
 have h1:0≤x*y:=WJ hx.1 hy.1;have h2:x*y≤1048575*1048575:=WK (by omega) (by omega) hy.1 (by omega);omega
theorem zc {o:List Int} {n j:Nat} (h:o.drop n=WL (o.length-n) 0) (hj:n≤j) (hlt:j<o.length):o[j]=0:=by
 have h1:(o.drop n)[j-n]?=some o[j]:=by rw[WM,show n+(j-n)=j by omega,WF hlt]
 rw[h,List.getElem?_replicate] at h1
 split at h1
 ·exact (Option.some.inj h1).symm
 ·cases h1
theorem uu {o:List Int} {n:Nat} {d:Int} (h:o.drop n=WL (o.length-n) 0) (hlt:n<o.length):(o.set n d).drop (n+1)=WL ((o.set n d).length-(n+1)) 0:=by
 rw[WD (by omega),WN];have h1:=WC hlt;rw[h,show o.length-n=(o.length-(n+1))+1 by omega,WO] at h1
 exact (List.cons.inj h1).2.symm
noncomputable def D0:List Data→Option PRes:=FF (α:=Nat × Nat) (fun (x,y)=>([digs x,digs y]:List Data)) (fun (x,y)=>aH ((dg x).length≤10000∧(dg y).length≤10000) (.own 1 ((dg (x*y)).map aa)))
theorem Ga:∀ a b:Nat × Nat,(fun (x,y)=>([digs x,digs y]:List Data)) a=(fun (x,y)=>([digs x,digs y]:List Data)) b→a=b:=by
  rintro⟨x1,y1⟩ ⟨x2,y2⟩ h;simp only[List.cons.injEq,digs,Data.sl.injEq] at h;exact Wv (eU (af aj _ _ h.1)) (eU (af aj _ _ h.2.1))
@[go_sem] theorem tW (x:Nat) (y:Nat) (hc:(dg x).length≤10000∧(dg y).length≤10000):D0 [digs x,digs y]=some (.own 1 ((dg (x*y)).map aa)):=(aX Ga (x,y)).trans (an hc _)
theorem QZ (T:Tab) (bb:T cv=yT nj jL) (x:Nat) (y:Nat) (hc:(dg x).length≤10000∧(dg y).length≤10000) :
  wp T mf_big_mul.body (bF mf_big_mul.res (.own 1 ((dg (x*y)).map aa))) ⟨ax [.dat (digs x),.dat (digs y)],emp⟩:=by
 refine ap ?_;simp only[mf_big_mul];obtain⟨hx,hy⟩:=hc;have hdx:=eD x;have hdy:=eD y;have hvx:=f7 x;have hvy:=f7 y;generalize ha:dg x=a at *;generalize hb:dg y=b at *;have hw1:IntKind.i64.wrap ((a.length:Int)+(b.length:Int))=((a.length+b.length:Nat):Int):=by rw[ak _ (by omega) (by omega)];rfl
 have hb1:8*(a.length+b.length)≤140737488355328:=by omega
 have hb2:a.length+b.length≤maxLen:=jj _ (by omega);simp only[go_sem,go_sem_proc,Wy,bb,digs,ha,hb,hw1,hb1,hb2,ma,Wz]
 refine ae [1,5,18,19] [] (fun (i,o) tm mem=>i≤a.length∧(o:List Int).length=a.length+b.length∧isD o∧o.drop (i+b.length)=WL (o.length-(i+b.length)) 0∧vl o=vl (a.take i)*y∧tm 20 = .dat (.int .i64 (i:Nat))∧mem 161017=some (0,aA aa o))
  (fun (i,_)=>a.length-i) (0,WL (a.length+b.length) 0) (by
   have hz:∀ n,vl (WL n 0)=0:=by
    intro n
    induction n with
    | zero=>rfl
    | succ n ih=>rw[WO,gQ,ih];rfl
   refine⟨WA _,by simp,fun d hd=>by rw[WP] at hd;omega,by simp,by rw[hz];simp [vl],?_,?_⟩<;>rfl) ?_
 intro vs ms hvs hms;simp only[go_sem,go_sem_proc,Wy,bb,digs,ha,hb,hw1,Wz] at hvs hms;subst hvs hms;rintro⟨i,o⟩ tm mem hk-⟨hi,ho,hdo,hzr,hvi,h20,hm⟩;simp only[go_sem,go_sem_proc,Wy,bb,List.cons.injEq] at hk;obtain⟨h1,h5,h18,h19⟩:=hk;rcases WB (i<a.length) with hlt | hge
 ·have hga:a[i]?=some a[i]:=WF hlt
  have hai:=dL hdx i hlt;have hts:=bc a i hlt;generalize a[i]=xi at *;have hdec:decide ((i:Int)<(a.length:Int))=true:=decide_eq_true (by omega);simp only[go_sem,go_sem_proc,Wy,bb,h1,h5,h18,h19,h20,hga,hdec,aa,Wz,WH,List.cons.injEq]
  refine ae [1,5,6,7,18,19,20,25,26] [] (fun ((k,c,o):Nat × Int × List Int) tm mem=>k≤b.length∧o.length=a.length+b.length∧isD o∧o.drop (i+b.length)=WL (o.length-(i+b.length)) 0∧0≤c∧c<1048576∧vl o+1048576^(i+k)*c=vl (a.take i)*y+1048576^i*(xi*vl (b.take k)) ∧
    tm 27 = .dat (.int .i64 (k:Nat))∧tm 8 = .dat (.int .i64 c)∧mem 161017=some (0,aA aa o))
   (fun (k,_)=>b.length-k) (0,0,o) (by refine⟨WA _,ho,hdo,hzr,by omega,by omega,by simp [vl,hvi],?_,?_,hm⟩<;>rfl) ?_
  intro vs ms hvs hms;simp only[go_sem,go_sem_proc,Wy,bb,h1,h5,h18,h19,h20,aa,Wz] at hvs hms;subst hvs hms;rintro⟨k,c,o⟩ tm mem hk-⟨hki,ho,hdo,hzr,hc0,hc1,hvi,h27,h8,hm⟩;simp only[go_sem,go_sem_proc,Wy,bb,List.cons.injEq] at hk;obtain⟨h1,h5,h6,h7,h18,h19,h20,h25,h26⟩:=hk;rcases WB (k<b.length) with hkb | hkb
  ·have hgb:b[k]?=some b[k]:=WF hkb
   have hbk:=dL hdy k hkb;have hjo:i+k<o.length:=by omega
   have hoj:=dL hdo (i+k) hjo;obtain⟨m1,m2,m3,m4⟩:=wn hoj hai hbk ⟨hc0,hc1⟩;have hdec:decide ((k:Int)<(b.length:Int))=true:=decide_eq_true (by omega);have hw2:IntKind.i64.wrap ((k:Int)+1)=((k+1:Nat):Int):=by rw[ak _ (by omega) (by omega)];rfl
   have hw3:IntKind.i64.wrap ((i:Int)+(k:Int))=((i+k:Nat):Int):=by rw[ak _ (by omega) (by omega)];rfl
   have hw4:IntKind.i64.wrap (xi*b[k])=xi*b[k]:=ak _ (by omega) (by omega);have hw5:IntKind.i64.wrap (o[i+k]+xi*b[k])=o[i+k]+xi*b[k]:=ak _ (by omega) (by omega);have hw6:IntKind.i64.wrap (o[i+k]+xi*b[k]+c)=o[i+k]+xi*b[k]+c:=ak _ (by omega) (by omega);have hio':i+k+1≤(aA aa o).length:=by rw[fc];omega
   have hget:=pN o (i+k) hjo;have hfold:=fun d=>gY o (i+k) d hjo
   have hjl:i+k<a.length+b.length:=by omega
   refine qI ?_
   repeat' (intro h<;>simp only[h,go_sem,go_sem_proc,Wy,bb,h1,h5,h6,h7,h18,h19,h20,h25,h26,h27,h8,hm,hgb,hdec,hw2,hw3,hw4,hw5,hw6,hjl,hio',hget,hfold,d7,fdivm,aa,WG,Wz,WH,List.cons.injEq,show ¬ ((20:Int)<0) by omega]<;>try refine qS ?_ ?_)
   refine⟨(k+1,(o[i+k]+xi*b[k]+c) / 1048576,o.set (i+k) ((o[i+k]+xi*b[k]+c) % 1048576)),by dsimp only;omega,by dsimp only;omega,by simp [ho],kf hdo _ (by omega),?_,m3,m4,?_,rfl,rfl,rfl⟩
   ·dsimp only
    rw[WD (by omega),WN,hzr]
   ·dsimp only
    rw[BY _ _ _ hjo,bc b k hkb,←WQ,Wp,zT _ _ _ _ _ _ _ hvi];rw[Wq (xi),Wq (1048576^i),WR]
    have:(1048576:Int)^i*(xi*(1048576^k*b[k]))=1048576^i*1048576^k*(xi*b[k]):=by
     rw[←Wr (xi),Ws (xi) (1048576^k),Wr (1048576^k),←Wr]
    omega
  ·obtain rfl:k=b.length:=by omega
   have hdec:decide ((b.length:Int)<(b.length:Int))=false:=decide_eq_false (by omega);have hjo:i+b.length<o.length:=by omega
   have hz:=zc hzr (Wx _) hjo;have hw2:IntKind.i64.wrap ((i:Int)+1)=((i+1:Nat):Int):=by rw[ak _ (by omega) (by omega)];rfl
   have hw3:IntKind.i64.wrap ((i:Int)+(b.length:Int))=((i+b.length:Nat):Int):=by rw[ak _ (by omega) (by omega)];rfl
   have hw4:IntKind.i64.wrap (0+c)=c:=by rw[WS];exact ak _ (by omega) (by omega)
   have hio':i+b.length+1≤(aA aa o).length:=by rw[fc];omega
   have hget:=pN o (i+b.length) hjo;rw[hz] at hget;have hfold:=fun d=>gY o (i+b.length) d hjo
   have hjl:i+b.length<a.length+b.length:=by omega
   refine qI ?_
   repeat' (intro h<;>simp only[h,go_sem,go_sem_proc,Wy,bb,h1,h5,h6,h7,h18,h19,h20,h25,h26,h27,h8,hm,hdec,hw2,hw3,hw4,hjl,hio',hget,hfold,aa,WG,Wz]<;>try refine qS ?_ ?_)
   refine⟨(i+1,o.set (i+b.length) c),by dsimp only;omega,by dsimp only;omega,by simp [ho],kf hdo _ ⟨hc0,hc1⟩,?_,?_,rfl,rfl⟩
   ·dsimp only
    have:=uu (d:=c) hzr hjo
    rwa [show i+b.length+1=i+1+b.length by omega] at this
   ·dsimp only
    rw[BY _ _ _ hjo,hz,hts];rw[WI (Wx _),hvy] at hvi;rw[WT,hvi,WU,Wr]
 ·obtain rfl:i=a.length:=by omega
  have hdec:decide ((a.length:Int)<(a.length:Int))=false:=decide_eq_false (by omega);rw[WI (Wx _),hvx] at hvi;have hG:=rU o 161017 0 mem hm (by omega);rw[ho] at hG;have hO:=ul hm hdo (n:=x*y) (by rw[hvi];rfl);refine qI ?_
  repeat' (intro h<;>simp only[h,go_sem,go_sem_proc,Wy,bb,h1,h5,h18,h19,h20,hm,hdec,hG,hO,Wz]<;>try refine qS ?_ ?_)
noncomputable def yS:List Data→Option PRes:=FF (α:=Nat × Int) (fun (x,d)=>([digs x,.int .i64 d]:List Data)) (fun (x,d)=>aH ((dg x).length≤100000∧0<d∧d<1048576) (.same (.tup [digs (x / d.toNat),.int .i64 (x % d.toNat:Nat)])))
theorem BG:∀ a b:Nat × Int,(fun (x,d)=>([digs x,.int .i64 d]:List Data)) a=(fun (x,d)=>([digs x,.int .i64 d]:List Data)) b→a=b:=by
  rintro⟨x1,d1⟩ ⟨x2,d2⟩ h;simp only[List.cons.injEq,digs,Data.sl.injEq,Data.int.injEq] at h;exact Wv (eU (af aj _ _ h.1)) h.2.1.2
@[go_sem] theorem tq (x:Nat) (d:Int) (hc:(dg x).length≤100000∧0<d∧d<1048576):yS [digs x,.int .i64 d]=some (.same (.tup [digs (x / d.toNat),.int .i64 (x % d.toNat:Nat)])):=(aX BG (x,d)).trans (an hc _)
theorem Mn (T:Tab) (bb:T cv=yT nj jL) (x:Nat) (d:Int) (hc:(dg x).length≤100000∧0<d∧d<1048576) :
  wp T mf_big_short.body (bF mf_big_short.res (.same (.tup [digs (x / d.toNat),.int .i64 (x % d.toNat:Nat)]))) ⟨ax [.dat (digs x),.dat (.int .i64 d)],emp⟩:=by
 refine ap ?_;simp only[mf_big_short];obtain⟨hx,hd0,hd1⟩:=hc;have hdx:=eD x;have hvx:=f7 x;generalize ha:dg x=a at *;have hb1:8*a.length≤140737488355328:=by omega
 have hb2:a.length≤maxLen:=jj _ (by omega);have hdn:(d=0)=False:=by simp;omega
 simp only[go_sem,go_sem_proc,Wy,bb,digs,ha,hb1,hb2,ma,Wz]
 refine ae [0,1,6] [] (fun ((n,r,o):Nat × Int × List Int) tm mem=>n≤a.length∧o.length=a.length∧isD o∧0≤r∧r<d∧vl (a.drop n)=d*vl (o.drop n)+r∧tm 8 = .dat (.int .i64 ((n:Nat)-1))∧tm 7 = .dat (.int .i64 r)∧mem 176011=some (0,aA aa o))
  (fun (n,_)=>n) (a.length,0,WL a.length 0) (by
   refine⟨Wx _,by simp,fun d hd=>by rw[WP] at hd;omega,by omega,by omega,by simp [vl],?_,?_,?_⟩
   ·simp only[aL,reduceIte];rw[ak _ (by omega) (by omega)]
   ·rfl
   ·rfl) ?_
 intro vs ms hvs hms;simp only[go_sem,go_sem_proc,Wy,bb,digs,ha,Wz] at hvs hms;subst hvs hms;rintro⟨n,r,o⟩ tm mem hk-⟨hn,ho,hdo,hr0,hr1,hv,h8,h7,hm⟩;simp only[go_sem,go_sem_proc,Wy,bb,List.cons.injEq] at hk;obtain⟨h0,h1,h6⟩:=hk;rcases n with _ | n
 ·have hq:vl o=(x / d.toNat:Nat)∧r=(x % d.toNat:Nat):=by
   rw[WV,WV,hvx] at hv;have e:(d.toNat:Int)=d:=by omega
   constructor
   ·rw[WW,e,hv,WX,WY _ _ (by omega),WZ hr0 hr1];omega
   ·rw[W0,e,hv,WX,W1,W2 hr0 hr1]
  have hE:=oe o (by omega);rw[iJ hdo,hq.1] at hE;have hlo:MV.ref 176011 0 1 0 a.length=MV.ref 176011 0 1 0 o.length:=by rw[ho]
  rw[hlo] at h6;refine qI ?_
  repeat' (intro h<;>simp only[h,go_sem,go_sem_proc,Wy,bb,h0,h1,h6,h7,h8,hm,hE,ck bs,W3,W4,show ¬ ((0:Int)-1≥0) by omega,decide_false,W5]<;>try refine qS ?_ ?_)
  all_goals rw[hq.2]
 ·have hga:a[n]?=some a[n]:=WF (by omega)
  have han:=dL hdx n (by omega);have hw:((n+1:Nat):Int)-1=(n:Int):=by omega
  have hno:n<o.length:=by omega
  have hw2:IntKind.i64.wrap (r*2^min (W6 20) 64)=r*1048576:=by
   rw[show min (W6 20) 64=20 by decide]
   exact ak _ (by omega) (by omega)
  have hor:bits .or .i64 (r*1048576) a[n]=r*1048576+a[n]:=xG r a[n] hr0 (by omega) han;have hq0:0≤(r*1048576+a[n]) / d:=W7 (by omega) (by omega)
  have hq1:(r*1048576+a[n]) / d<1048576:=W8 hd0 (by
   have:(r+1)*1048576≤d*1048576:=W9 (by omega) (by omega);rw[Ws 1048576 d];omega)
  have htd:(r*1048576+a[n]).tdiv d=(r*1048576+a[n]) / d:=Xa (by omega);have htm:(r*1048576+a[n]).tmod d=(r*1048576+a[n]) % d:=Xb (by omega);have hw3:IntKind.i64.wrap ((r*1048576+a[n]) / d)=(r*1048576+a[n]) / d:=ak _ (by omega) (by omega);have hio':n+1≤(aA aa o).length:=by rw[fc];omega
  have hfold:=fun d=>gY o n d hno
  have hnl:n<a.length:=by omega
  have hw4:IntKind.i64.wrap ((n:Int)-1)=(n:Int)-1:=ak _ (by omega) (by omega);refine qI ?_
  repeat' (intro h<;>simp only[h,go_sem,go_sem_proc,Wy,bb,h0,h1,h6,h7,h8,hm,hw,hga,hw2,hor,htd,htm,hw3,hw4,hdn,hnl,hio',hfold,show (n:Int)≥0 by omega,decide_true,aa,WG,Wz,WH,List.cons.injEq,show ¬ ((20:Int)<0) by omega]<;>try refine qS ?_ ?_)
  refine⟨(n,(r*1048576+a[n]) % d,o.set n ((r*1048576+a[n]) / d)),by dsimp only;omega,by dsimp only;omega,by simp [ho],kf hdo n ⟨hq0,hq1⟩,Xc _ (by omega),Xd _ hd0,?_,rfl,rfl,rfl⟩
  dsimp only;rw[WC (by omega:n<a.length),WC (by simpa using hno:n<(o.set n ((r*1048576+a[n]) / d)).length),gQ,gQ]
  simp only[WE];rw[WD (by omega),hv];have:=Wt (r*1048576+a[n]) d;rw[Wq,Wq,Xe d 1048576];omega
def pad:Nat→Nat→List Int
 | 0,_=>[]
 | n+1,x=>((x % 1048576:Nat):Int)::pad n (x / 1048576)
theorem Ld (n x:Nat):(pad n x).length=n:=by
 induction n generalizing x with
 | zero=>rfl
 | succ n ih=>simp [pad,ih]
theorem MG (n x:Nat):isD (pad n x):=by
 induction n generalizing x with
 | zero=>intro d hd;cases hd
 | succ n ih =>
  unfold pad;rw[isD_cons];exact⟨by omega,ih _⟩
theorem Hx {l:List Int} (h:isD l):l=pad l.length (vl l).toNat:=by
 induction l with
 | nil=>rfl
 | cons d r ih =>
  rw[isD_cons] at h;have h1:=cO h.2;have h2:=ih h.2;simp only[List.length_cons,pad,gQ]
  congr 1
  ·omega
  ·rw[show (d+1048576*vl r).toNat / 1048576=(vl r).toNat by omega]
   exact h2
theorem O3 {n x:Nat} (h:x<1048576^n):vl (pad n x)=x:=by
 induction n generalizing x with
 | zero=>simp at h;subst h;rfl
 | succ n ih =>
  unfold pad;rw[gQ,ih (by rw[Nat.div_lt_iff_lt_mul (by omega)];rwa [Xf] at h)];omega
theorem nM {pre u post:List Int} {i:Nat} (h:i<u.length):List.take 1 (List.drop (pre.length+i) (aA aa (pre++u++post)))=[.dat (.int .i64 u[i])]:=by
 rw[pN _ _ (by simp;omega)]
 congr 3
 simp [List.getElem_append,h]
theorem Bo {pre u post:List Int} {i:Nat} (h:i<u.length) (d:Int):List.take (pre.length+i) (aA aa (pre++u++post))++[.dat (.int .i64 d)]++List.drop (pre.length+i+1) (aA aa (pre++u++post))=aA aa (pre++u.set i d++post):=by
 rw[gY _ _ _ (by simp;omega)]
 congr 1
 rw[Xg,List.set_append_right _ _ (by omega),Nat.add_sub_cancel_left,List.set_append_left _ _ h,Xg]
theorem gq (mem:Mem) (k g g':Nat) (a b:List MV):az (az mem k g a) k g' b=az mem k g' b:=by
 funext j
 unfold az
 split<;>rfl
theorem Ft {mem:Mem} {k g:Nat} {a:List MV} (h:mem k=some (g,a)):az mem k g a=mem:=by
 funext j
 unfold az
 split
 ·rename_i e;rw[e,h]
 ·rfl
structure pY where
 pre:List Int
 u:List Int
 post:List Int
 V:Nat
 q:Int
 k:Key
 g:Nat
def yE (u:List Int) (V:Nat) (q:Int):Int:=if vl u-q*V<0 then vl u-q*V+V else vl u-q*V
def jD (u:List Int) (V:Nat) (q:Int):Int:=if vl u-q*V<0 then q-1 else q
def iB (a:pY):List MV:=aA aa (a.pre++pad a.u.length (yE a.u a.V a.q).toNat++a.post)
def tn (a:pY) (mem:Mem):Prop:=mem a.k=some (a.g,aA aa (a.pre++a.u++a.post))∧isD a.u∧(dg a.V).length≤a.u.length∧0≤a.q∧a.q<1048576∧0≤vl a.u-a.q*a.V+a.V∧a.pre.length+a.u.length≤100000
noncomputable def nV:List MV→Mem→Option (MV × Mem):=GG (fun (a:pY) args mem=>args=[.ref a.k a.g 1 a.pre.length a.u.length,.dat (digs a.V),.dat (.int .i64 a.q)]∧tn a mem)
 (fun a mem=>(.dat (.int .i64 (jD a.u a.V a.q)),az mem a.k a.g (iB a)))
theorem s8 {a b:Nat} (h:digs a=digs b):a=b:=eU (af aj _ _ (by simpa [digs] using h))
theorem Bi (a:pY) (mem:Mem) (h:tn a mem):nV [.ref a.k a.g 1 a.pre.length a.u.length,.dat (digs a.V),.dat (.int .i64 a.q)] mem=some (.dat (.int .i64 (jD a.u a.V a.q)),az mem a.k a.g (iB a)):=by
 unfold nV;refine Nn (a:=a) ?_ ⟨rfl,h⟩;rintro a b args mem ⟨h1,h2,_⟩ ⟨h3,h4,_⟩;rw[h1] at h3;simp only[List.cons.injEq,MV.ref.injEq,MV.dat.injEq,Data.int.injEq,true_and,and_true] at h3;obtain⟨⟨ek,eg,ep,eu⟩,eV,eq⟩:=h3;have eV':=s8 eV;clear eV;obtain⟨pre,u,post,V,q,k,g⟩:=a;obtain⟨pre',u',post',V',q',k',g'⟩:=b;simp only at ek eg ep eu eV' eq h2 h4;subst ek eg eV' eq;rw[h4] at h2;simp only[Option.some.injEq,Prod.mk.injEq,true_and] at h2;have e:=td bs aj _ _ h2 (by omega);rw[Xg,Xg] at e;obtain⟨e1,e2⟩:=Xh e ep.symm;obtain⟨e3,e4⟩:=Xh e2 eu.symm;subst e1 e3 e4
 rfl
theorem zG (p vo va vb c a b q:Int) (h:vo=va-q*vb+p*c):vo+p*((a-c-q*b) % 1048576)=va+p*a-q*(vb+p*b)+p*1048576*(-((a-c-q*b) / 1048576)):=by
 have h1:=Wt (a-c-q*b) 1048576
 have h2:p*((a-c-q*b) % 1048576)+p*1048576*((a-c-q*b) / 1048576)=p*(a-c-q*b):=by
  rw[Wr,←Wq,h1]
 have h3:p*(a-c-q*b)=p*a-p*c-p*(q*b):=by rw[Wu,Wu]
 have h4:q*(vb+p*b)=q*vb+p*(q*b):=by rw[Wq,Xe]
 rw[Int.mul_neg];omega
theorem pH {a c q b:Int} (ha:0≤a∧a<1048576) (hc:0≤c∧c≤1048576) (hq:0≤q∧q<1048576) (hb:0≤b∧b<1048576) :
  0≤q*b∧q*b≤1099509530625∧0 ≤ -((a-c-q*b) / 1048576) ∧ -((a-c-q*b) / 1048576)≤1048576:=by
 have h1:0≤q*b:=WJ hq.1 hb.1;have h2:q*b≤1048575*1048575:=WK (by omega) (by omega) hb.1 (by omega);omega
theorem JR (T:Tab) (a:pY) (mem0:Mem) (hc:tn a mem0) :
  wp T mf_big_settle.body (FW mf_big_settle.res (.dat (.int .i64 (jD a.u a.V a.q))) (az mem0 a.k a.g (iB a))) ⟨ax [.ref a.k a.g 1 a.pre.length a.u.length,.dat (digs a.V),.dat (.int .i64 a.q)],mem0⟩:=by
 obtain⟨pre,u,post,V,q,k,g⟩:=a;obtain⟨hm0,hdu,hlv,hq0,hq1,hX,hlen⟩:=hc;simp only at hm0 hdu hlv hq0 hq1 hX hlen ⊢;have hdv:=eD V;have hvv:=f7 V;have hVlt:=dg_len.1 hlv;refine ap ?_;simp only[mf_big_settle];simp only[go_sem,go_sem_proc,Wy,digs];generalize hb:dg V=v at *
 refine ae [0,1,2,13] [] (fun ((i,c,w):Nat × Int × List Int) tm mem=>i≤u.length∧w.length=u.length∧isD w∧w.drop i=u.drop i∧(0≤c∧c≤1048576)∧vl (w.take i)=vl (u.take i)-q*vl (v.take i)+1048576^i*c∧tm 14 = .dat (.int .i64 (i:Nat))∧tm 7 = .dat (.int .i64 c)∧mem=az mem0 k g (aA aa (pre++w++post)))
  (fun (i,_)=>u.length-i) (0,0,u) (by refine⟨WA _,rfl,hdu,rfl,by omega,by simp [vl],rfl,rfl,(Ft hm0).symm⟩) ?_
 intro vs ms hvs hms;simp only[go_sem,go_sem_proc,Wy] at hvs hms;subst hvs hms;rintro⟨i,c,w⟩ tm _ hk-⟨hi,hw,hdw,hdr,hc,hvi,h14,h7,rfl⟩;simp only[go_sem,go_sem_proc,Wy,List.cons.injEq] at hk;obtain⟨h0,h1,h2,h13⟩:=hk;rcases WB (i<u.length) with hlt | hge
 ·have hiw:i<w.length:=by omega
  have hwu:w[i]=u[i]:=by
   have h1:=WC hiw;rw[hdr,WC hlt] at h1;exact (List.cons.inj h1).1.symm
  have hwd:w.drop (i+1)=u.drop (i+1):=by
   have h1:=WC hiw;rw[hdr,WC hlt] at h1;exact (List.cons.inj h1).2.symm
  have hget:=nM (pre:=pre) (post:=post) hiw;rw[hwu] at hget;have hui:=dL hdu i hlt;have hts:=bc u i hlt;generalize u[i]=ui at *;have hw2:IntKind.i64.wrap ((i:Int)+1)=((i+1:Nat):Int):=by rw[ak _ (by omega) (by omega)];rfl
  have hw3:IntKind.i64.wrap (ui-c)=ui-c:=ak _ (by omega) (by omega);have hio':pre.length+i+1≤(aA aa (pre++w++post)).length:=by rw[fc];simp;omega
  have hfold:=fun d=>Bo (pre:=pre) (post:=post) hiw d
  have hdec2:decide ((i:Int)<(u.length:Int))=true:=decide_eq_true (by omega)
  have fin:∀ bi:Int,0≤bi→bi<1048576→vl (v.take (i+1))=vl (v.take i)+1048576^i*bi →
    ∃ i':Nat × Int × List Int,u.length-i'.1<u.length-i∧i'.1≤u.length∧i'.2.2.length=u.length∧isD i'.2.2∧i'.2.2.drop i'.1=u.drop i'.1∧(0≤i'.2.1∧i'.2.1≤1048576)∧vl (i'.2.2.take i'.1)=vl (u.take i'.1)-q*vl (v.take i'.1)+1048576^i'.1*i'.2.1 ∧
     MV.dat (Data.int .i64 ((i+1:Nat):Int))=MV.dat (Data.int .i64 (i'.1:Int))∧MV.dat (Data.int .i64 (-((ui-c-q*bi) / 1048576)))=MV.dat (Data.int .i64 i'.2.1)∧az mem0 k g (aA aa (pre++w.set i ((ui-c-q*bi) % 1048576)++post))=az mem0 k g (aA aa (pre++i'.2.2++post)):=by
   intro bi hb0 hb1 hvb;obtain⟨m1,m2,m3,m4⟩:=pH hui hc ⟨hq0,hq1⟩ ⟨hb0,hb1⟩;refine⟨(i+1,-((ui-c-q*bi) / 1048576),w.set i ((ui-c-q*bi) % 1048576)),by dsimp only;omega,by dsimp only;omega,by simp [hw],kf hdw i (by omega),?_,⟨m3,m4⟩,?_,rfl,rfl,rfl⟩
   ·dsimp only
    rw[WD (by omega),hwd]
   ·dsimp only
    rw[bc _ _ (by simpa using hiw),kT,hts,hvb,Wp];simp only[WE];exact zG _ _ _ _ _ _ _ _ hvi
  rcases WB (i<v.length) with hlb' | hgb'
  ·have hgb:v[i]?=some v[i]:=WF hlb'
   have hbi:=dL hdv i hlb';have htb:=bc v i hlb';generalize v[i]=bi at *;obtain⟨m1,m2,m3,m4⟩:=pH hui hc ⟨hq0,hq1⟩ hbi;have hw4:IntKind.i64.wrap (q*bi)=q*bi:=ak _ (by omega) (by omega);have hw5:IntKind.i64.wrap (ui-c-q*bi)=ui-c-q*bi:=ak _ (by omega) (by omega);have hw6:IntKind.i64.wrap (0-(ui-c-q*bi) / 1048576) = -((ui-c-q*bi) / 1048576):=by rw[ak _ (by omega) (by omega)];omega
   have hdec:decide ((i:Int)<(v.length:Int))=true:=decide_eq_true (by omega);simp only[go_sem,go_sem_proc,Wy,h0,h1,h2,h13,h14,h7,hgb,hw2,hw3,hw4,hw5,hw6,hdec,hdec2,hlt,hio',hget,hfold,gq,d7,fdivm,aa,WG,Wz,WH,List.cons.injEq,show ¬ ((20:Int)<0) by omega]
   repeat' (first|refine qS ?_ ?_|fail)<;>intro h<;>simp only[h,go_sem,go_sem_proc,Wy,h0,h1,h2,h13,h14,h7,hgb,hw2,hw3,hw4,hw5,hw6,hdec,hdec2,hlt,hio',hget,hfold,gq,d7,fdivm,aa,WG,Wz,WH,List.cons.injEq,show ¬ ((20:Int)<0) by omega]
   exact fin bi hbi.1 hbi.2 htb
  ·have hdec:decide ((i:Int)<(v.length:Int))=false:=decide_eq_false (by omega)
   have hw6:IntKind.i64.wrap (0-(ui-c) / 1048576) = -((ui-c) / 1048576):=by rw[ak _ (by omega) (by omega)];omega
   simp only[go_sem,go_sem_proc,Wy,h0,h1,h2,h13,h14,h7,hw2,hw3,hw6,hdec,hdec2,hlt,hio',hget,hfold,gq,d7,fdivm,aa,WG,Wz,WH,List.cons.injEq,show ¬ ((20:Int)<0) by omega]
   repeat' (first|refine qS ?_ ?_|fail)<;>intro h<;>simp only[h,go_sem,go_sem_proc,Wy,h0,h1,h2,h13,h14,h7,hw2,hw3,hw6,hdec,hdec2,hlt,hio',hget,hfold,gq,d7,fdivm,aa,WG,Wz,WH,List.cons.injEq,show ¬ ((20:Int)<0) by omega]
   have:=fin 0 (by omega) (by omega) (by rw[WI (by omega),WI (by omega)];simp);simp only[Xi,WT] at this;exact this
 ·obtain rfl:i=u.length:=by omega
  have hdec2:decide ((u.length:Int)<(u.length:Int))=false:=decide_eq_false (by omega);rw[WI (by omega),WI (by omega),WI (by omega),hvv] at hvi;have hwlt:=qv hdw;have hwnn:=cO hdw;rw[hw] at hwlt
  have hpV:(V:Int)<1048576^u.length:=by
   have h:=Int.ofNat_lt.2 hVlt;rw[Xj] at h;exact h
  by_cases hc0:c=0
  ·subst hc0
   have hXX:vl u-q*V=vl w:=by omega
   have e1:jD u V q=q:=by unfold jD;rw[if_neg (by omega)]
   have e2:iB ⟨pre,u,post,V,q,k,g⟩=aA aa (pre++w++post):=by
    unfold iB yE;simp only;rw[if_neg (by omega),hXX,←hw,←Hx hdw]
   simp only[go_sem,go_sem_proc,Wy,h0,h1,h2,h13,h14,h7,hdec2,e1,e2,beq_self_eq_true]
   repeat' (first|refine qS ?_ ?_|fail)<;>intro h<;>simp only[h,go_sem,go_sem_proc,Wy,h0,h1,h2,h13,h14,h7,hdec2,e1,e2,beq_self_eq_true]
  ·have hcf:(c==0)=false:=by simpa using hc0
   have hcp:(1048576:Int)^u.length≤1048576^u.length*c:=by
    have:(1048576:Int)^u.length*1≤1048576^u.length*c:=Xk (by omega) (by omega);omega
   have hneg:vl u-q*V<0:=by omega
   have hwq:IntKind.i64.wrap (q-1)=q-1:=ak _ (by omega) (by omega);simp only[go_sem,go_sem_proc,Wy,h0,h1,h2,h13,h14,h7,hdec2,hcf]
   refine ae [0,1,2,48] [] (fun ((i,d,z):Nat × Int × List Int) tm mem=>i≤u.length∧z.length=u.length∧isD z∧z.drop i=w.drop i∧(0≤d∧d≤1)∧vl (z.take i)+1048576^i*d=vl (w.take i)+vl (v.take i)∧tm 49 = .dat (.int .i64 (i:Nat))∧tm 10 = .dat (.int .i64 d)∧mem=az mem0 k g (aA aa (pre++z++post)))
    (fun (i,_)=>u.length-i) (0,0,w) (by refine⟨WA _,hw,hdw,rfl,by omega,by simp [vl],rfl,rfl,rfl⟩) ?_
   intro vs ms hvs hms;simp only[go_sem,go_sem_proc,Wy,h0,h1,h2] at hvs hms;subst hvs hms;rintro⟨i,d,z⟩ tm _ hk-⟨hi,hz,hdz,hdr,hd,hvz,h49,h10,rfl⟩;simp only[go_sem,go_sem_proc,Wy,List.cons.injEq] at hk;obtain⟨h0,h1,h2,h48⟩:=hk;rcases WB (i<u.length) with hlt | hge
   ·have hiz:i<z.length:=by omega
    have hiw:i<w.length:=by omega
    have hzw:z[i]=w[i]:=by
     have h1:=WC hiz;rw[hdr,WC hiw] at h1;exact (List.cons.inj h1).1.symm
    have hzd:z.drop (i+1)=w.drop (i+1):=by
     have h1:=WC hiz;rw[hdr,WC hiw] at h1;exact (List.cons.inj h1).2.symm
    have hget:=nM (pre:=pre) (post:=post) hiz;rw[hzw] at hget;have hwi:=dL hdw i hiw;have hts:=bc w i hiw;generalize w[i]=wi at *;have hw2:IntKind.i64.wrap ((i:Int)+1)=((i+1:Nat):Int):=by rw[ak _ (by omega) (by omega)];rfl
    have hw3:IntKind.i64.wrap (d+wi)=d+wi:=ak _ (by omega) (by omega);have hio':pre.length+i+1≤(aA aa (pre++z++post)).length:=by rw[fc];simp;omega
    have hfold:=fun d=>Bo (pre:=pre) (post:=post) hiz d
    have hdec2:decide ((i:Int)<(u.length:Int))=true:=decide_eq_true (by omega)
    have fin:∀ bi:Int,0≤bi→bi<1048576→vl (v.take (i+1))=vl (v.take i)+1048576^i*bi →
      ∃ i':Nat × Int × List Int,u.length-i'.1<u.length-i∧i'.1≤u.length∧i'.2.2.length=u.length∧isD i'.2.2∧i'.2.2.drop i'.1=w.drop i'.1∧(0≤i'.2.1∧i'.2.1≤1)∧vl (i'.2.2.take i'.1)+1048576^i'.1*i'.2.1=vl (w.take i'.1)+vl (v.take i'.1) ∧
       MV.dat (Data.int .i64 ((i+1:Nat):Int))=MV.dat (Data.int .i64 (i'.1:Int))∧MV.dat (Data.int .i64 ((d+wi+bi) / 1048576))=MV.dat (Data.int .i64 i'.2.1)∧az mem0 k g (aA aa (pre++z.set i ((d+wi+bi) % 1048576)++post))=az mem0 k g (aA aa (pre++i'.2.2++post)):=by
     intro bi hb0 hb1 hvb;refine⟨(i+1,(d+wi+bi) / 1048576,z.set i ((d+wi+bi) % 1048576)),by dsimp only;omega,by dsimp only;omega,by simp [hz],kf hdz i (by omega),?_,by dsimp only;omega,?_,rfl,rfl,rfl⟩
     ·dsimp only
      rw[WD (by omega),hzd]
     ·dsimp only
      rw[bc _ _ (by simpa using hiz),kT,hts,hvb,Wp];simp only[WE];exact zV _ _ _ _ _ _ _ hvz
    rcases WB (i<v.length) with hlb' | hgb'
    ·have hgb:v[i]?=some v[i]:=WF hlb'
     have hbi:=dL hdv i hlb';have htb:=bc v i hlb';generalize v[i]=bi at *;have hw4:IntKind.i64.wrap (d+wi+bi)=d+wi+bi:=ak _ (by omega) (by omega);have hdec:decide ((i:Int)<(v.length:Int))=true:=decide_eq_true (by omega);simp only[go_sem,go_sem_proc,Wy,h0,h1,h2,h48,h49,h10,hgb,hw2,hw3,hw4,hdec,hdec2,hlt,hio',hget,hfold,gq,d7,fdivm,aa,WG,Wz,WH,List.cons.injEq,show ¬ ((20:Int)<0) by omega]
     repeat' (first|refine qS ?_ ?_|fail)<;>intro h<;>simp only[h,go_sem,go_sem_proc,Wy,h0,h1,h2,h48,h49,h10,hgb,hw2,hw3,hw4,hdec,hdec2,hlt,hio',hget,hfold,gq,d7,fdivm,aa,WG,Wz,WH,List.cons.injEq,show ¬ ((20:Int)<0) by omega]
     exact fin bi hbi.1 hbi.2 htb
    ·have hdec:decide ((i:Int)<(v.length:Int))=false:=decide_eq_false (by omega)
     simp only[go_sem,go_sem_proc,Wy,h0,h1,h2,h48,h49,h10,hw2,hw3,hdec,hdec2,hlt,hio',hget,hfold,gq,d7,fdivm,aa,WG,Wz,WH,List.cons.injEq,show ¬ ((20:Int)<0) by omega]
     repeat' (first|refine qS ?_ ?_|fail)<;>intro h<;>simp only[h,go_sem,go_sem_proc,Wy,h0,h1,h2,h48,h49,h10,hw2,hw3,hdec,hdec2,hlt,hio',hget,hfold,gq,d7,fdivm,aa,WG,Wz,WH,List.cons.injEq,show ¬ ((20:Int)<0) by omega]
     have:=fin 0 (by omega) (by omega) (by rw[WI (by omega),WI (by omega)];simp);simp only[Xl] at this;exact this
   ·obtain rfl:i=u.length:=by omega
    have hdec2:decide ((u.length:Int)<(u.length:Int))=false:=decide_eq_false (by omega);rw[WI (by omega),WI (by omega),WI (by omega),hvv] at hvz;have hzlt:=qv hdz;have hznn:=cO hdz;rw[hz] at hzlt
    have hXX:vl u-q*V+V=vl z:=by
     have e:vl u-q*V+V-vl z=1048576^u.length*(d-c):=by rw[Wu];omega
     generalize (1048576:Int)^u.length=p at *;rcases Xm (d-c) 0 with h | h | h
     ·have:p*(d-c)≤p*(-1):=Xk (by omega) (by omega)
      omega
     ·rw[h,Xi] at e;omega
     ·have:p*1≤p*(d-c):=Xk (by omega) (by omega)
      omega
    have e1:jD u V q=q-1:=by unfold jD;rw[if_pos hneg]
    have e2:iB ⟨pre,u,post,V,q,k,g⟩=aA aa (pre++z++post):=by
     unfold iB yE;simp only;rw[if_pos hneg,hXX,←hz,←Hx hdz]
    simp only[go_sem,go_sem_proc,Wy,h0,h1,h2,h48,h49,h10,hdec2,e1,e2,hwq]
    repeat' (first|refine qS ?_ ?_|fail)<;>intro h<;>simp only[h,go_sem,go_sem_proc,Wy,h0,h1,h2,h48,h49,h10,hdec2,e1,e2,hwq]
set_option maxHeartbeats 2000000
theorem CC {T V P Vl Tl v1 v2 top u2 q r:Int} (hV:V=(v1*1048576+v2)*P+Vl) (hT:T=(top*1048576+u2)*P+Tl) (hP:0<P) (hVl:0≤Vl) (hTl:Tl<P) (hq0:0≤q) (hV0:0≤V)
  (hTV:T<1048576*V) (hqr:q*v1+r=top) (hc:q≥1048576∨q*v2>r*1048576+u2):T<q*V:=by
 rcases hc with h | h
 ·have:=W9 h hV0
  omega
 ·have h1:(top*1048576+u2+1)*P≤(q*(v1*1048576+v2))*P:=by
   refine W9 ?_ (by omega);rw[Wq,←Wr];have:q*v1*1048576=(top-r)*1048576:=by rw[←hqr];congr 1;omega
   omega
  have h2:q*V=(q*(v1*1048576+v2))*P+q*Vl:=by rw[hV,Wq,←Wr]
  have h3:0≤q*Vl:=WJ hq0 hVl;rw[WU _ 1,Xo] at h1;omega
theorem tL {T V P Vl Tl v1 v2 top u2 q r:Int} (hV:V=(v1*1048576+v2)*P+Vl) (hT:T=(top*1048576+u2)*P+Tl) (hP:0<P) (hVl:0≤Vl∧Vl<P) (hTl:0≤Tl) (hq0:0≤q) (hq1:q<1048576) (hv1:524288≤v1) (hv2:0≤v2∧v2<1048576) (hu2:0≤u2)
  (hqr:q*v1+r=top) (hc:r≥1048576∨q*v2≤r*1048576+u2):0≤T-q*V+V:=by
 have h2:q*V=(q*(v1*1048576+v2))*P+q*Vl:=by rw[hV,Wq,←Wr]
 have h3:q*Vl≤q*P:=Xk (by omega) hq0;have h4:q*P≤1048576*P:=W9 (by omega) (by omega);have h5:1048576*P≤(v1*1048576+v2)*P:=W9 (by omega) (by omega);have e:q*v1*1048576=(top-r)*1048576:=by rw[←hqr];congr 1;omega
 rcases hc with h | h
 ·have h6:q*v2+q≤1048576*1048576:=by
   have h7:q*(v2+1)≤1048576*1048576:=WK (by omega) (by omega) (by omega) (by omega);rw[Wq,Int.mul_one] at h7;exact h7
  have h8:(q*(v1*1048576+v2)+q)*P≤(top*1048576+u2)*P:=by
   refine W9 ?_ (by omega);rw[Wq,←Wr];omega
  rw[WU _ q] at h8;omega
 ·have h8:(q*(v1*1048576+v2))*P≤(top*1048576+u2)*P:=by
   refine W9 ?_ (by omega);rw[Wq,←Wr];omega
  omega
theorem y7 {T V q:Int} (hV:0<V) (h1:T<(q+1)*V) (h2:0≤T-q*V+V):(if T-q*V<0 then q-1 else q)=T / V∧(if T-q*V<0 then T-q*V+V else T-q*V)=T % V:=by
 have h3:(q+1)*V=q*V+V:=by rw[WU,Xo]
 have h4:(q-1)*V=q*V-V:=by rw[Xp,Xo]
 have key:∀ d r:Int,T=d*V+r→0≤r→r<V→d=T / V∧r=T % V:=by
  intro d r h h0 h5
  constructor
  ·rw[h,WX,Int.add_mul_ediv_right _ _ (by omega),WZ h0 h5];omega
  ·rw[h,WX,Int.add_mul_emod_self_right,W2 h0 h5]
 split
 ·exact key (q-1) _ (by omega) (by omega) (by omega)
 ·exact key q _ (by omega) (by omega) (by omega)
theorem E4 {v:List Int} {N:Nat} (h:v.length=N+2):vl v=(v[N+1]*1048576+v[N])*1048576^N+vl (v.take N):=by
 have e:v=v.take (N+1+1):=by rw[WI (by omega)]
 conv=>lhs;rw[e]
 rw[bc v (N+1) (by omega),bc v N (by omega),Wp,WU,Ws (v[N]),Xq (v[N+1]),Ws (v[N+1])];have:(1048576:Int)^N*1048576*v[N+1]=1048576^N*v[N+1]*1048576:=by rw[Xq]
 omega
theorem MK {v:List Int} {N:Nat} (h:v.length=N+3):vl v=((v[N+2]*1048576+v[N+1])*1048576+v[N])*1048576^N+vl (v.take N):=by
 have e:v=v.take (N+1+1+1):=by rw[WI (by omega)]
 conv=>lhs;rw[e]
 rw[bc v (N+1+1) (by omega),bc v (N+1) (by omega),bc v N (by omega)];simp only[Wp];generalize (1048576:Int)^N=p;rw[WU,WU,WU,Xq (v[N+2]*1048576),Xq (v[N+2]),Ws (v[N+2]),Xq (v[N+1]),Ws (v[N+1]),Ws (v[N])];have h1:p*1048576*v[N+1]=p*v[N+1]*1048576:=by rw[Xq]
 have h2:p*1048576*1048576*v[N+1+1]=p*v[N+2]*1048576*1048576:=by rw[Xq,Xq p]
 omega
theorem window {u:List Int} {i n:Nat} {V:Int} (hd:isD u) (hl:i+n+1≤u.length) (hR:vl (u.drop (i+1))<V) (hV:V<1048576^n) :
  ∃ pre win post,u=pre++win++post∧pre.length=i∧win.length=n+1∧isD pre∧isD win∧isD post∧vl post=0∧∃ w0,win[0]?=some w0∧u.take (i+1)=pre++[w0]∧vl win=w0+1048576*vl (u.drop (i+1))∧0≤vl (u.drop (i+1))∧0≤w0∧w0<1048576:=by
 have e:u=u.take i++(u.drop i).take (n+1)++u.drop (i+n+1):=by
  rw[Xg,WQ,←Xr,Xs,Xs]
 have hd3:=e ▸ hd;rw[isD_append,isD_append] at hd3;obtain⟨⟨d1,d2⟩,d3⟩:=hd3;have hlt:i<u.length:=by omega
 have hdr:=WC hlt;have hwl:((u.drop i).take (n+1)).length=n+1:=by simp;omega
 have hR':vl (u.drop (i+1))=vl ((u.drop (i+1)).take n)+1048576^n*vl (u.drop (i+n+1)):=by
  have:=iN (u.drop (i+1)) n;rw[Xt,Xu (by omega),Xr] at this;rw[this]
  congr 3
  rw[show i+1+n=i+n+1 by omega]
 have hp:=cO d3;have ht:0≤vl ((u.drop (i+1)).take n):=cO (fun x hx=>hd x (Xv (List.mem_of_mem_take hx)))
 have hp0:vl (u.drop (i+n+1))=0:=by
  rcases WB (0<vl (u.drop (i+n+1))) with h | h
  ·have:(1048576:Int)^n*1≤1048576^n*vl (u.drop (i+n+1)):=Xk (by omega) (Int.pow_nonneg (by omega))
   omega
  ·omega
 refine⟨_,_,_,e,by simp;omega,hwl,d1,d2,d3,hp0,u[i],?_,?_,?_,?_,(dL hd i hlt).1,(dL hd i hlt).2⟩
 ·rw[List.getElem?_take_of_lt (by omega),WM]
  simp [hlt]
 ·rw[List.take_add_one,WF hlt];rfl
 ·rw[hdr,List.take_succ_cons,gQ,hR',hp0]
  simp
 ·rw[hR',hp0];simpa using ht
theorem SG (l:List Int) (h:l.length≤1000000):kY 157054 0 1 l.length 8 1 [.dat (.int .i64 0)] (some (0,((l.map aa).flatten.map MV.dat)))=some (.ref 157054 1 1 0 (l.length+1),some (157054,1,aA aa (l++[0]))) :=
 c8 bs g8 157054 0 8 l 0 rfl (by omega) (by omega)
noncomputable def EN:List Data→Option PRes:=FF (α:=Nat × Nat) (fun (x,y)=>([digs x,digs y]:List Data)) (fun (x,y)=>aH ((dg x).length≤1000∧(dg y).length≤1000∧0<y) (.same (.tup [digs (x / y),digs (x % y)])))
theorem GJ:∀ a b:Nat × Nat,(fun (x,y)=>([digs x,digs y]:List Data)) a=(fun (x,y)=>([digs x,digs y]:List Data)) b→a=b:=by
  rintro⟨x1,y1⟩ ⟨x2,y2⟩ h;simp only[List.cons.injEq] at h;exact Wv (s8 h.1) (s8 h.2.1)
@[go_sem] theorem z7 (x:Nat) (y:Nat) (hc:(dg x).length≤1000∧(dg y).length≤1000∧0<y):EN [digs x,digs y]=some (.same (.tup [digs (x / y),digs (x % y)])):=(aX GJ (x,y)).trans (an hc _)
theorem Rr (T:Tab) (aM:T ej=mkE lW) (bp:T bP=mkE mV) (cN:T ka=mkE yS) (bb:T cv=yT nj jL) (eC:T jb=mkE D0) (cg:T lO=mkG nV) (x:Nat) (y:Nat) (hc:(dg x).length≤1000∧(dg y).length≤1000∧0<y) :
  wp T mf_big_div.body (bF mf_big_div.res (.same (.tup [digs (x / y),digs (x % y)]))) ⟨ax [.dat (digs x),.dat (digs y)],emp⟩:=by
 refine ap ?_;simp only[mf_big_div];obtain⟨hx,hy,hy0⟩:=hc;have hcc:(dg x).length≤1000000∧(dg y).length≤1000000:=by omega
 have hce:=mW x y hcc;have hxl:(dg x).length≤1000000:=by omega
 by_cases hxy:x<y
 ·have hcmp:fY x y = -1:=by unfold fY;rw[if_pos (by simpa using hxy)]
  have hcl:=CX (dg x) hxl;rw[hcmp] at hce
  change mV [digs x]=_ at hcl
  simp only[go_sem,go_sem_proc,Wy,aM,bp,cN,bb,eC,cg,hce,hcl,show ((-1:Int)<0) by omega,decide_true]
  repeat' (first|refine qS ?_ ?_|fail)<;>intro h<;>simp only[h,go_sem,go_sem_proc,Wy,aM,bp,cN,bb,eC,cg,hce,hcl,show ((-1:Int)<0) by omega,decide_true]
  rw[Nat.div_eq_of_lt hxy,Wo hxy]
  try rfl
 ·have hcmp:decide (fY x y<0)=false:=by
   unfold fY;rw[if_neg (by simp;omega)]
   split<;>rfl
  have hny:dg y≠[]:=by rw[Ne,mP];omega
  by_cases h1:y<1048576
  ·have hdy:=o7 hy0 h1
   have hsh:=tq x y ⟨by omega,by omega,by omega⟩
   have htr:=oe [((x % y:Nat):Int)] (by simp);have hlt:x % y<y:=Nat.mod_lt _ hy0;rw[W5] at hsh
   have htd:cq [((x % y:Nat):Int)]=dg (x % y):=by
    generalize x % y=r at hlt ⊢;rw[iJ (by intro d hd;rw[Xw] at hd;omega)];simp only[vl]
    congr 1
   rw[htd] at htr;have hdig:digs y = .sl [[.int .i64 y]]:=by unfold digs;rw[hdy];rfl
   change nj [.sl [[.int .i64 _]]]=_ at htr
   rw[hdig] at hce;simp only[go_sem,go_sem_proc,Wy,aM,bp,cN,bb,eC,cg,hdig,hce,hcmp,hsh,htr,show (((1:Nat):Int)==1)=true from rfl]
   repeat' (first|refine qS ?_ ?_|fail)<;>intro h<;>simp only[h,go_sem,go_sem_proc,Wy,aM,bp,cN,bb,eC,cg,hdig,hce,hcmp,hsh,htr,show (((1:Nat):Int)==1)=true from rfl]
   try rfl
  ·obtain⟨N,hN⟩:∃ N,(dg y).length=N+2:=by
    have:=mt (dg_len (n:=y) (k:=1)).1 (by simpa using h1);exact⟨(dg y).length-2,by omega⟩
   have hdy:=eD y;have hly:(((dg y).length:Int)==1)=false:=by simp;omega
   have hwl:IntKind.i64.wrap (((dg y).length:Int)-1)=((N+1:Nat):Int):=by rw[ak _ (by omega) (by omega)];omega
   have hgt:(dg y)[N+1]?=some (dg y)[N+1]:=WF (by omega);have htop:=dL hdy (N+1) (by omega)
   have htop0:(dg y)[N+1]≠0:=by
    intro h;have:=Fb y;rw[List.getLast?_eq_getElem?,hN] at this;exact this (by rw[show N+2-1=N+1 by omega,hgt,h])
   have hyv:=E4 hN;rw[f7] at hyv;have hylow:=qv (iR hdy N);have hylow0:=cO (iR hdy N);have hylow1:=dL hdy N (by omega);rw[Xx,Xu (by omega)] at hylow;generalize (dg y)[N+1]=b1 at *;generalize (dg y)[N]=b0 at *;generalize vl ((dg y).take N)=bl at *;have hgt':((dg y).map aa)[N+1]?=some [.int .i64 b1]:=by rw[WH,hgt];rfl
   simp only[go_sem,go_sem_proc,Wy,aM,bp,cN,bb,eC,cg,digs,hce,hcmp,hly,Wz];have hce':=hce;unfold digs at hce';simp only[go_sem,go_sem_proc,Wy,aM,bp,cN,bb,eC,cg,hce',hcmp,hly,Wz];refine ae [0,1] [157054,157075] (fun (κ:Nat) tm mem=>b1*2^κ<1048576∧tm 8 = .dat (.int .i64 (2^κ))) (fun κ=>20-κ) 0 (by refine⟨by omega,rfl⟩) ?_;intro vs ms hvs hms;simp only[go_sem,go_sem_proc,Wy,aM,bp,cN,bb,eC,cg,Wz] at hvs hms;subst hvs hms;rintro κ tm mem hk hm ⟨hbs,h8⟩;simp only[go_sem,go_sem_proc,Wy,aM,bp,cN,bb,eC,cg,List.cons.injEq] at hk hm;obtain⟨h0,h1'⟩:=hk;obtain⟨hm1,hm2⟩:=hm;have hspos:(0:Int)<2^κ:=Xy (by omega)
   have hsB:(2:Int)^κ≤b1*2^κ:=by
    have:1*(2:Int)^κ≤b1*2^κ:=W9 (by omega) (by omega);omega
   have hκ:κ<20:=by
    rcases Nat.lt_or_ge κ 20 with h | h
    ·exact h
    ·have:(2:Int)^20≤2^κ:=by
      have:=Xz (n:=2) (by omega) h;have h':=Int.ofNat_le.2 this
      rwa [Xj,Xj] at h'
     omega
   have hws:IntKind.i64.wrap (b1*2^κ)=b1*2^κ:=ak _ (by omega) (by omega);have hws2:IntKind.i64.wrap (2^κ*2)=2^κ*2:=ak _ (by omega) (by omega);rcases WB (b1*2^κ<524288) with hlt | hge
   ·simp only[go_sem,go_sem_proc,Wy,aM,bp,cN,bb,eC,cg,h0,h1',h8,hwl,hgt',hws,hws2,hlt,hm1,hm2,decide_true,WG,Wz]
    repeat' (first|refine qS ?_ ?_|fail)<;>intro h<;>simp only[h,go_sem,go_sem_proc,Wy,aM,bp,cN,bb,eC,cg,h0,h1',h8,hwl,hgt',hws,hws2,hlt,hm1,hm2,decide_true,WG,Wz]
    exact⟨κ+1,by omega,by rw[Wp,←Wr];omega,by rw[Wp]⟩
   ·-- the numbers, shifted
    have hb1s:(b1+1)*2^κ≤1048576:=by
     have e:(1048576:Int)=2^(20-κ)*2^κ:=by rw[←WR,show 20-κ+κ=20 by omega];rfl
     have h1:b1<2^(20-κ):=by
      rcases WB (b1<2^(20-κ)) with h | h
      ·exact h
      ·have:(2:Int)^(20-κ)*2^κ≤b1*2^κ:=W9 (by omega) (by omega)
       omega
     rw[e];exact W9 (by omega) (by omega)
    generalize (2:Int)^κ=s at *;obtain⟨S,rfl⟩:∃ S:Nat,s=S:=⟨s.toNat,by omega⟩
    have hP:(0:Int)<1048576^N:=Xy (by omega);have hSpos:0<S:=by omega
    have hVlt:y*S<1048576^(N+2):=by
     have h1:((y*S:Nat):Int)<1048576^(N+2):=by
      rw[XA,hyv,Wp,Wp];generalize (1048576:Int)^N=p at *
      have e1:((b1*1048576+b0)*p+bl)*S≤((b1+1)*1048576*p)*S:=by
       refine W9 ?_ (by omega);have:(b1*1048576+b0+1)*p≤((b1+1)*1048576)*p:=W9 (by omega) (by omega);rw[WU _ 1] at this;omega
      have e1':((b1*1048576+b0)*p+bl)*S<((b1+1)*1048576*p)*S:=by
       refine Int.mul_lt_mul_of_pos_right ?_ (by omega);have:(b1*1048576+b0+1)*p≤((b1+1)*1048576)*p:=W9 (by omega) (by omega);rw[WU _ 1] at this;omega
      have e2:((b1+1)*1048576*p)*S=((b1+1)*S)*(p*1048576):=by
       rw[Wr (b1+1),Wr,Ws (1048576*p),←Wr,Ws 1048576 p]
      have e3:((b1+1)*S)*(p*1048576)≤1048576*(p*1048576):=W9 hb1s (by omega);omega
     have h2:((1048576^(N+2):Nat):Int)=1048576^(N+2):=by rw[Xj];rfl
     omega
    have hVge:524288*(1048576^N*1048576)≤((y*S:Nat):Int):=by
     rw[XA,hyv];generalize (1048576:Int)^N=p at *
     have e1:(b1*1048576)*p*S≤((b1*1048576+b0)*p+bl)*S:=by
      refine W9 ?_ (by omega);have:(b1*1048576)*p≤(b1*1048576+b0)*p:=W9 (by omega) (by omega);omega
     have e2:(b1*1048576)*p*S=(b1*S)*(p*1048576):=by
      rw[Wr b1,Wr,Ws (1048576*p),←Wr,Ws 1048576 p]
     have e3:524288*(p*1048576)≤(b1*S)*(p*1048576):=W9 (by omega) (by omega);omega
    have hnV:(dg (y*S)).length=N+2:=by
     have h1:=dg_len.2 hVlt
     have h2:=mt (dg_len (n:=y*S) (k:=N+1)).1 (by
      have h2:((1048576^(N+1):Nat):Int)=1048576^N*1048576:=by rw[Xj,Wp];rfl
      omega)
     omega
    have hxl2:1*x≤x*S:=by rw[Nat.mul_comm];exact XB x hSpos
    have hXlen:(dg x).length≤(dg (x*S)).length:=by
     rw[dg_len];have:=dg_len.1 (Wx (dg (x*S)).length);omega
    have hXV:y*S≤x*S:=Nat.mul_le_mul_right S (by omega)
    have hXlen2:N+2≤(dg (x*S)).length:=by
     rw[←hnV,dg_len];have:=dg_len.1 (Wx (dg (x*S)).length);omega
    have hXlen3:(dg (x*S)).length≤1001:=by
     have:∀ k,(dg x).length≤k→(dg (x*S)).length≤k+1:=by
      intro k hk;rw[dg_len];have h1:=dg_len.1 hk;rw[Xf];exact Nat.lt_of_lt_of_le (Nat.mul_lt_mul_of_pos_right h1 hSpos) (XB _ (by omega))
     exact this 1000 hx
    have hmx:=tW x S ⟨by omega,by rw[o7 hSpos (by omega)];simp⟩
    have hmy:=tW y S ⟨by omega,by rw[o7 hSpos (by omega)];simp⟩
    have hdS:digs S = .sl [[.int .i64 (S:Int)]]:=by unfold digs;rw[o7 hSpos (by omega)];rfl
    rw[hdS] at hmx hmy;simp only[digs] at hmx hmy;have hap:=SG (dg (x*S)) (by omega);have hlne:((((dg (x*S)).length+1:Nat):Int)==((dg x).length:Int))=false:=by simp;omega
    have hvV:=f7 (y*S);have hdV:=eD (y*S);have hvX:=f7 (x*S);have hdX:=eD (x*S);have hVdef:digs (y*S) = .sl ((dg (y*S)).map aa):=rfl;generalize hvd:dg (y*S)=v at *;generalize hud:dg (x*S)=u0 at *;have hwq:IntKind.i64.wrap (((u0.length+1:Nat):Int)-(v.length:Int))=((u0.length-N-1:Nat):Int):=by rw[ak _ (by omega) (by omega)];omega
    have hq1:8*(u0.length-N-1)≤140737488355328:=by omega
    have hq2:u0.length-N-1≤maxLen:=jj _ (by omega);have hge':decide (b1*(S:Int)<524288)=false:=decide_eq_false hge;simp only[go_sem,go_sem_proc,Wy,aM,bp,cN,bb,eC,cg,h0,h1',h8,hm1,hm2,hwl,hgt',hws,hge',hmx,hmy,hap,hlne,hwq,hq1,hq2,ma,WG,Wz];have hM:u0.length-N-1+(N+2)=u0.length+1:=by omega
    generalize hMd:u0.length-N-1=M at *;have hL:u0.length=M+N+1:=by omega
    have hV2:=E4 hnV;rw[hvV] at hV2;have hvlow:=qv (iR hdV N);have hvlow0:=cO (iR hdV N);rw[Xx,Xu (by omega)] at hvlow;have hg1:v[N+1]?=some v[N+1]:=WF (by omega);have hg0:v[N]?=some v[N]:=WF (by omega);have hr1:=dL hdV (N+1) (by omega);have hr0:=dL hdV N (by omega);generalize v[N+1]=v1 at *;generalize v[N]=v0 at *;generalize vl (v.take N)=vlow at *
    have hv1:524288≤v1:=by
     generalize (1048576:Int)^N=p at *;rcases WB (524288≤v1) with h | h
     ·exact h
     ·have h2:(v1*1048576+v0+1)*p≤(524288*1048576)*p:=W9 (by omega) (by omega)
      rw[WU _ 1,Xo] at h2;omega
    have hVn:((y*S:Nat):Int)<1048576^(N+2):=by
     have h2:((1048576^(N+2):Nat):Int)=1048576^(N+2):=by rw[Xj];rfl
     omega
    have hVpos:0<((y*S:Nat):Int):=by
     have:0<1048576^N*(1048576:Int):=Int.mul_pos hP (by omega);omega
    have hUtop:vl ((u0++[0]).drop M)<((y*S:Nat):Int):=by
     have e:(u0++[0]).drop M=u0.drop M++[0]:=by rw[List.drop_append_of_le_length (by omega)]
     rw[e,jn];have h1:=qv (fun d hd=>hdX d (Xv hd):isD (u0.drop M));rw[Xt,show u0.length-M=N+1 by omega,Wp] at h1
     simp only[vl];omega
    have hXsum:((x*S:Nat):Int)=vl ((u0++[0]).take M)+1048576^M*vl ((u0++[0]).drop M):=by
     have:=iN (u0++[0]) M;rw[jn,hvX,Xu (by simp;omega)] at this
     simpa [vl] using this
    generalize hVd:y*S=Vn at *;generalize hXd:x*S=Xn at *
    refine ae [8,9,10,11,12] [] (fun ((j,u,qs):Nat × List Int × List Int) tm mem=>j≤M∧u.length=u0.length+1∧isD u∧qs.length=M∧isD qs∧vl (u.drop j)<Vn∧(Xn:Int)=vl (u.take j)+1048576^j*(Vn*vl (qs.drop j)+vl (u.drop j)) ∧
      tm 13 = .dat (.int .i64 ((j:Nat)-1))∧mem 157054=some (1,aA aa u)∧mem 157075=some (0,aA aa qs)) (fun (j,_)=>j) (M,u0++[0],WL M 0)
     (by
      refine⟨Wx _,by simp,isD_append.2 ⟨hdX,by intro d hd;rw[Xw] at hd;omega⟩,by simp,fun d hd=>by rw[WP] at hd;omega,hUtop,?_,?_,rfl,rfl⟩
      ·rw[List.drop_of_length_le (by simp)]
       simp only[vl,Xi,WS];exact hXsum
      ·simp only[aL,reduceIte];rw[ak _ (by omega) (by omega)]) ?_
    intro vs ms hvs hms;simp only[go_sem,go_sem_proc,Wy,aM,bp,cN,bb,eC,cg,h0,h1',h8] at hvs hms;subst hvs hms;rintro⟨j,u,qs⟩ tm mem hk-⟨hj,hul,hdu,hql,hdq,hR,hsum,h13,hmu,hmq⟩;simp only[go_sem,go_sem_proc,Wy,aM,bp,cN,bb,eC,cg,List.cons.injEq] at hk;obtain⟨h8,h9,h10,h11,h12⟩:=hk;rcases j with _ | j
    ·rw[WV,WV] at hsum
     rw[WV] at hR;simp only[List.take_zero,vl,Int.pow_zero,Xo,WS] at hsum;have hqn:=cO hdq;have hun:=cO hdu
     have hdivmod:vl qs=((x / y:Nat):Int)∧vl u=((x % y*S:Nat):Int):=by
      have h1:Xn / Vn=x / y:=by rw[←hXd,←hVd];exact Nat.mul_div_mul_right x y hSpos
      have h2:Xn % Vn=x % y*S:=by rw[←hXd,←hVd];exact Nat.mul_mod_mul_right S x y
      have h3:((Xn / Vn:Nat):Int)=vl qs:=by rw[WW,hsum,WX,WY _ _ (by omega),WZ hun hR];omega
      have h4:((Xn % Vn:Nat):Int)=vl u:=by rw[W0,hsum,WX,W1,W2 hun hR]
      rw[h1] at h3;rw[h2] at h4;exact⟨h3.symm,h4.symm⟩
     have htu:=oe u (by omega);rw[iJ hdu,hdivmod.2,W5] at htu;have htq:=oe qs (by omega);rw[iJ hdq,hdivmod.1,W5] at htq
     have hlen:(dg (x % y*S)).length≤100000:=by
      have:(dg (x % y*S)).length≤u.length:=by
       have:=BR u;rw[iJ hdu,hdivmod.2,W5] at this;exact this
      omega
     have hsh:=tq (x % y*S) S ⟨hlen,by omega,by omega⟩
     rw[W5,Nat.mul_div_cancel _ hSpos] at hsh;simp only[digs] at hsh;have e9:MV.ref 157054 1 1 0 (u0.length+1)=MV.ref 157054 1 1 0 u.length:=by rw[hul]
     have e12:MV.ref 157075 0 1 0 M=MV.ref 157075 0 1 0 qs.length:=by rw[hql]
     rw[e9] at h9;rw[e12] at h12;simp only[go_sem,go_sem_proc,Wy,aM,bp,cN,bb,eC,cg,h8,h9,h10,h11,h12,h13,hmu,hmq,htu,htq,hsh,ck bs,digs,W3,W4,show ¬ ((0:Int)-1≥0) by omega,decide_false]
     repeat' (first|refine qS ?_ ?_|fail)<;>intro h<;>simp only[h,go_sem,go_sem_proc,Wy,aM,bp,cN,bb,eC,cg,h8,h9,h10,h11,h12,h13,hmu,hmq,htu,htq,hsh,ck bs,digs,W3,W4,show ¬ ((0:Int)-1≥0) by omega,decide_false]
    ·obtain⟨pre,win,post,e,hpre,hwl',hdp,hdw,hdpo,hpo0,w0,hw0,htk,hwv,hR0,hw00,hw01⟩:=window (i:=j) (n:=N+2) hdu (by omega) hR hVn
     have hM1:j<M:=by omega
     rw[htk,jn,hpre] at hsum;subst e;subst hpre;rw[hnV] at h11;have hw13:((pre.length+1:Nat):Int)-1=(pre.length:Int):=by omega
     have hx1:IntKind.i64.wrap ((pre.length:Int)+((N+2:Nat):Int))=((pre.length+(N+2):Nat):Int):=by rw[ak _ (by omega) (by omega)];omega
     have hx3:IntKind.i64.wrap (((pre.length+(N+2):Nat):Int)-1)=((pre.length+(N+1):Nat):Int):=by rw[ak _ (by omega) (by omega)];omega
     have hx4:IntKind.i64.wrap (((N+2:Nat):Int)-1)=((N+1:Nat):Int):=by rw[ak _ (by omega) (by omega)];omega
     have hx5:IntKind.i64.wrap (((N+2:Nat):Int)-2)=(N:Int):=by rw[ak _ (by omega) (by omega)];omega
     have hx6:IntKind.i64.wrap (((pre.length+(N+2):Nat):Int)-2)=((pre.length+N:Nat):Int):=by rw[ak _ (by omega) (by omega)];omega
     have hl1:pre.length+(N+2)<u0.length+1:=by omega
     have hl2:pre.length+(N+1)<u0.length+1:=by omega
     have hl3:pre.length+N<u0.length+1:=by omega
     have hr1':pre.length+(N+2)+1≤(aA aa (pre++win++post)).length:=by rw[fc,hul];omega
     have hr2':pre.length+(N+1)+1≤(aA aa (pre++win++post)).length:=by rw[fc,hul];omega
     have hr3':pre.length+N+1≤(aA aa (pre++win++post)).length:=by rw[fc,hul];omega
     have hp2:=nM (pre:=pre) (post:=post) (show N+2<win.length by omega);have hp1:=nM (pre:=pre) (post:=post) (show N+1<win.length by omega);have hp0:=nM (pre:=pre) (post:=post) (show N<win.length by omega);have hT:=MK (N:=N) (by omega:win.length=N+3);have hTl:=qv (iR hdw N);have hTl0:=cO (iR hdw N);rw[Xx,Xu (by omega)] at hTl;have hd2:=dL hdw (N+2) (by omega);have hd1:=dL hdw (N+1) (by omega);have hd0:=dL hdw N (by omega);generalize win[N+2]=t2 at *;generalize win[N+1]=t1 at *;generalize win[N]=t0 at *;generalize vl (win.take N)=Tl at *;have hsh2:IntKind.i64.wrap (t2*2^min (W6 20) 64)=t2*1048576:=by rw[show min (W6 20) 64=20 by decide];exact ak _ (by omega) (by omega)
     have hor2:bits .or .i64 (t2*1048576) t1=t2*1048576+t1:=xG t2 t1 hd2.1 (by omega) hd1;have hv1n:(v1=0)=False:=by simp;omega
     generalize hTop:t2*1048576+t1=top at *;have htop0':0≤top∧top<1099511627776:=by omega
     have htd:top.tdiv v1=top / v1:=Xa (by omega);have htm:top.tmod v1=top % v1:=Xb (by omega);have hq0:0≤top / v1:=W7 (by omega) (by omega);have hq1:top / v1≤top:=Int.ediv_le_self _ (by omega);have hwq1:IntKind.i64.wrap (top / v1)=top / v1:=ak _ (by omega) (by omega);have hgv1:(v.map aa)[N+1]?=some [.int .i64 v1]:=by rw[WH,hg1];rfl
     have hgv0:(v.map aa)[N]?=some [.int .i64 v0]:=by rw[WH,hg0];rfl
     have hTV:vl win<1048576*Vn:=by omega
     have hinit:vl win<(top / v1+1)*Vn:=by
      have e1:top+1≤(top / v1+1)*v1:=by
       have h1:=Wt top v1;have h2:=Xd top (show 0<v1 by omega);rw[WU,Xo,Ws (top / v1)];omega
      have e2:(top+1)*1048576*1048576^N≤(top / v1+1)*v1*1048576*1048576^N:=W9 (W9 e1 (by omega)) (by omega)
      have e3:(top / v1+1)*v1*1048576*1048576^N≤(top / v1+1)*Vn:=by
       rw[Wr,Wr];refine Xk ?_ (by omega);rw[hV2,←Wr];have:v1*1048576*1048576^N≤(v1*1048576+v0)*1048576^N:=W9 (by omega) (by omega);omega
      have e4:(top*1048576+t0+1)*1048576^N≤(top+1)*1048576*1048576^N:=W9 (by omega) (by omega);rw[WU _ 1,Xo] at e4;omega
     simp only[go_sem,go_sem_proc,Wy,aM,bp,cN,bb,eC,cg,h8,h9,h10,h11,h12,h13,hmu,hmq,hw13,hx1,hx3,hx4,hl1,hl2,hr1',hr2',hp2,hp1,hsh2,hor2,hv1n,htd,htm,hwq1,hgv1,show (pre.length:Int)≥0 by omega,decide_true,WG,Wz,show ¬ ((20:Int)<0) by omega]
     have hexit:∀ (mem:Mem),mem 157054=some (1,aA aa (pre++win++post))→∀ q:Int,0≤q→q<1048576→vl win<(q+1)*Vn→0≤vl win-q*Vn+Vn →
       nV [.ref 157054 1 1 pre.length (N+3),.dat (.sl (v.map aa)),.dat (.int .i64 q)] mem=some (.dat (.int .i64 (vl win / Vn)),az mem 157054 1 (aA aa (pre++pad (N+3) (vl win % Vn).toNat++post))):=by
      intro mem hmu q hq0 hqB hup hdn;have hdig:=y7 hVpos hup hdn;have hG:=Bi ⟨pre,win,post,Vn,q,157054,1⟩ mem ⟨hmu,hdw,by show (dg Vn).length≤win.length;rw[hvd];omega,hq0,hqB,hdn,by show pre.length+win.length≤100000;omega⟩
      simp only[jD,iB,yE] at hG;rw[hdig.1,hdig.2,hwl',hVdef] at hG;exact hG
     have hQ0:0≤vl win / Vn:=W7 (cO hdw) (by omega);have hQ1:vl win / Vn<1048576:=W8 hVpos hTV;have hr0'':=Xc (vl win) (show (Vn:Int)≠0 by omega);have hr1'':=Xd (vl win) hVpos
     have hpad:vl (pad (N+3) (vl win % Vn).toNat)=vl win % Vn:=by
      rw[O3]
      ·omega
      ·have h2:((1048576^(N+2):Nat):Int)=1048576^(N+2):=by rw[Xj];rfl
       have h3:1048576^(N+2)≤1048576^(N+3):=Xz (by omega) (by omega);omega
     have hfin:∃ i':Nat × List Int × List Int,i'.1<pre.length+1∧i'.1≤M∧i'.2.1.length=u0.length+1∧isD i'.2.1∧i'.2.2.length=M∧isD i'.2.2∧vl (i'.2.1.drop i'.1)<Vn∧(Xn:Int)=vl (i'.2.1.take i'.1)+1048576^i'.1*(Vn*vl (i'.2.2.drop i'.1)+vl (i'.2.1.drop i'.1)) ∧
       MV.dat (Data.int .i64 ((pre.length:Int)-1))=MV.dat (Data.int .i64 ((i'.1:Int)-1))∧some (1,aA aa (pre++pad (N+3) (vl win % Vn).toNat++post))=some (1,aA aa i'.2.1)∧some (0,aA aa (qs.set pre.length (vl win / Vn)))=some (0,aA aa i'.2.2):=by
      have hql':qs.length=M:=hql;have hql:pre.length<qs.length:=by omega
      have hdrop:(pre++pad (N+3) (vl win % Vn).toNat++post).drop pre.length=pad (N+3) (vl win % Vn).toNat++post:=by rw[Xg,List.drop_left]
      have htake:(pre++pad (N+3) (vl win % Vn).toNat++post).take pre.length=pre:=by rw[Xg,List.take_left]
      have hvd':vl (pad (N+3) (vl win % Vn).toNat++post)=vl win % Vn:=by rw[jn,hpo0,hpad];omega
      refine⟨(pre.length,pre++pad (N+3) (vl win % Vn).toNat++post,qs.set pre.length (vl win / Vn)),by dsimp only;omega,by dsimp only;omega,?_,isD_append.2 ⟨isD_append.2 ⟨hdp,MG _ _⟩,hdpo⟩,by rw[WN];exact hql',kf hdq _ ⟨hQ0,hQ1⟩,?_,?_,rfl,rfl,rfl⟩
      ·rw[←hul];simp [Ld,hwl']
      ·dsimp only;rw[hdrop,hvd'];exact hr1''
      ·dsimp only
       rw[hdrop,hvd',htake,WC (by simpa using hql),gQ];simp only[WE];rw[WD (by omega)];have h1:=Wt (vl win) Vn;have h2:(Vn:Int)*(vl win / Vn+1048576*vl (qs.drop (pre.length+1)))=Vn*(vl win / Vn)+1048576*(Vn*vl (qs.drop (pre.length+1))):=by rw[Wq,Xe]
       rw[h2,hsum,Wp,Wr];simp only[vl,Xi,Xl];rw[Int.add_assoc,←Wq]
       congr 2
       rw[Wq];omega
     have hsub:pre.length+(N+2)+1-pre.length=N+3:=by omega
     have hx2:IntKind.i64.wrap (((pre.length+(N+2):Nat):Int)+1)=((pre.length+(N+2)+1:Nat):Int):=by rw[ak _ (by omega) (by omega)];rfl
     have hsl1:pre.length≤pre.length+(N+2)+1∧pre.length+(N+2)+1≤u0.length+1:=by omega
     have hqlt:pre.length<M:=hM1;have hfoldq:=fun d=>gY qs pre.length d (by omega)
     have hql2:pre.length+1≤(aA aa qs).length:=by rw[fc];omega
     have hwi:IntKind.i64.wrap ((pre.length:Int)-1)=(pre.length:Int)-1:=ak _ (by omega) (by omega)
     refine ae [8,9,10,11,12,13] [157054,157075] (fun ((q,r):Int × Int) tm mem=>0≤q∧0≤r∧q*v1+r=top∧vl win<(q+1)*Vn∧tm 15 = .dat (.int .i64 q)∧tm 16 = .dat (.int .i64 r)) (fun (q,_)=>q.toNat) (top / v1,top % v1)
      (by
       refine⟨hq0,Xc _ (by omega),?_,hinit,rfl,rfl⟩;have:=Wt top v1;rw[Ws (top / v1)];omega) ?_
     intro vs ms hvs hms;simp only[go_sem,go_sem_proc,Wy,aM,bp,cN,bb,eC,cg,h8,h9,h10,h11,h12,h13,hmu,hmq,hw13] at hvs hms;subst hvs hms;rintro⟨q,r⟩ tm mem' hk hm ⟨hq0',hr0',hqr,hup,h15,h16⟩;simp only[go_sem,go_sem_proc,Wy,aM,bp,cN,bb,eC,cg,List.cons.injEq] at hk hm;obtain⟨k8,k9,k10,k11,k12,k13⟩:=hk;obtain⟨mu,mq⟩:=hm;have hqv:0≤q*v1:=WJ hq0' (by omega);have hqb:q*524288≤q*v1:=Xk hv1 hq0';have hqv0:0≤q*v0:=WJ hq0' hr0.1;have hqv1:q*v0≤q*1048576:=Xk (by omega) hq0';have hw20:IntKind.i64.wrap (q*v0)=q*v0:=ak _ (by omega) (by omega);have hw21:IntKind.i64.wrap (q-1)=q-1:=ak _ (by omega) (by omega);have hw22:IntKind.i64.wrap (r+v1)=r+v1:=ak _ (by omega) (by omega);have hw23:IntKind.i64.wrap (r*2^min (W6 20) 64)=r*1048576:=by rw[show min (W6 20) 64=20 by decide];exact ak _ (by omega) (by omega)
     have hor3:bits .or .i64 (r*1048576) t0=r*1048576+t0:=xG r t0 hr0' (by omega) hd0
     have hround:(q≥1048576∨q*v0>r*1048576+t0)→∃ i':Int × Int,i'.1.toNat<q.toNat∧0≤i'.1∧0≤i'.2∧i'.1*v1+i'.2=top∧vl win<(i'.1+1)*Vn∧MV.dat (Data.int .i64 (q-1))=MV.dat (Data.int .i64 i'.1)∧MV.dat (Data.int .i64 (r+v1))=MV.dat (Data.int .i64 i'.2):=by
      intro hc;have h1:=CC hV2 hT hP hvlow0 hTl hq0' (by omega) hTV hqr hc
      have hqp:0<q:=by
       rcases WB (0<q) with h | h
       ·exact h
       ·obtain rfl:q=0:=by omega
        have:=cO hdw;omega
      exact⟨(q-1,r+v1),by dsimp only;omega,by dsimp only;omega,by dsimp only;omega,by dsimp only;rw[Xp];omega,by dsimp only;rw[Int.sub_add_cancel];exact h1,rfl,rfl⟩
     by_cases hc1:q≥1048576
     ·simp only[go_sem,go_sem_proc,Wy,aM,bp,cN,bb,eC,cg,k8,k9,k10,k11,k12,k13,mu,mq,h15,h16,hc1,hw21,hw22,hx4,hgv1,decide_true,WG,Wz]
      repeat' (first|refine qS ?_ ?_|fail)<;>intro h<;>simp only[h,go_sem,go_sem_proc,Wy,aM,bp,cN,bb,eC,cg,k8,k9,k10,k11,k12,k13,mu,mq,h15,h16,hc1,hw21,hw22,hx4,hgv1,decide_true,WG,Wz]
      exact hround (.inl hc1)
     ·by_cases hc2:r<1048576
      ·by_cases hc3:q*v0>r*1048576+t0
       ·simp only[go_sem,go_sem_proc,Wy,aM,bp,cN,bb,eC,cg,k8,k9,k10,k11,k12,k13,mu,mq,h15,h16,hc1,hc2,hc3,hw20,hw21,hw22,hw23,hor3,hx1,hx4,hx5,hx6,hl3,hr3',hp0,hgv1,hgv0,decide_true,decide_false,WG,Wz,show ¬ ((20:Int)<0) by omega]
        repeat' (first|refine qS ?_ ?_|fail)<;>intro h<;>simp only[h,go_sem,go_sem_proc,Wy,aM,bp,cN,bb,eC,cg,k8,k9,k10,k11,k12,k13,mu,mq,h15,h16,hc1,hc2,hc3,hw20,hw21,hw22,hw23,hor3,hx1,hx4,hx5,hx6,hl3,hr3',hp0,hgv1,hgv0,decide_true,decide_false,WG,Wz,show ¬ ((20:Int)<0) by omega]
        exact hround (.inr hc3)
       ·have hG:=hexit mem' mu q hq0' (by omega) hup (tL hV2 hT hP ⟨hvlow0,hvlow⟩ hTl0 hq0' (by omega) hv1 hr0 hd0.1 hqr (.inr (by omega)))
        simp only[go_sem,go_sem_proc,Wy,aM,bp,cN,bb,eC,cg,k8,k9,k10,k11,k12,k13,mu,mq,h15,h16,hc1,hc2,hc3,hw20,hw23,hor3,hx1,hx2,hx4,hx5,hx6,hl3,hr3',hp0,hgv0,hsub,hsl1,hG,hqlt,hql2,hfoldq,hwi,hnV,decide_true,decide_false,WG,Wz,show ¬ ((20:Int)<0) by omega]
        repeat' (first|refine qS ?_ ?_|fail)<;>intro h<;>simp only[h,go_sem,go_sem_proc,Wy,aM,bp,cN,bb,eC,cg,k8,k9,k10,k11,k12,k13,mu,mq,h15,h16,hc1,hc2,hc3,hw20,hw23,hor3,hx1,hx2,hx4,hx5,hx6,hl3,hr3',hp0,hgv0,hsub,hsl1,hG,hqlt,hql2,hfoldq,hwi,hnV,decide_true,decide_false,WG,Wz,show ¬ ((20:Int)<0) by omega]
        exact hfin
      ·have hG:=hexit mem' mu q hq0' (by omega) hup (tL hV2 hT hP ⟨hvlow0,hvlow⟩ hTl0 hq0' (by omega) hv1 hr0 hd0.1 hqr (.inl (by omega)))
       simp only[go_sem,go_sem_proc,Wy,aM,bp,cN,bb,eC,cg,k8,k9,k10,k11,k12,k13,mu,mq,h15,h16,hc1,hc2,hx1,hx2,hsub,hsl1,hG,hqlt,hql2,hfoldq,hwi,hnV,decide_true,decide_false,WG,Wz]
       repeat' (first|refine qS ?_ ?_|fail)<;>intro h<;>simp only[h,go_sem,go_sem_proc,Wy,aM,bp,cN,bb,eC,cg,k8,k9,k10,k11,k12,k13,mu,mq,h15,h16,hc1,hc2,hx1,hx2,hsub,hsl1,hG,hqlt,hql2,hfoldq,hwi,hnV,decide_true,decide_false,WG,Wz]
       exact hfin
def LIM:Nat:=1048576^60
def aS (z:Int):Raw:=(z.sign,dg z.natAbs)
def gH (a:Raw):Int:=a.1*vl a.2
theorem aU (z:Int):gH (aS z)=z:=by
 unfold gH aS;rw[f7];exact XC z
theorem nH (d:Int):mi d=true↔0≤d∧d<1048576:=by
 unfold mi;simp;omega
theorem bj (a:Raw):aK a=true↔∃ z:Int,z.natAbs<LIM∧a=aS z:=by
 obtain⟨s,l⟩:=a;unfold aK LIM;rw[XD,List.all_eq_true]
 constructor
 ·rintro⟨h1,h2⟩
  have hd:isD l:=fun d hd=>(nH d).1 (h1 d hd)
  split at h2
  ·rename_i h
   have hl:l=[]:=List.eq_nil_of_length_eq_zero (by simpa using h);subst hl;have hs:s=0:=by simpa using h2
   subst hs;exact⟨0,by simp,rfl⟩
  ·rename_i h
   simp at h2;obtain⟨⟨hs,hlen⟩,hlast⟩:=h2;have hc:=canon hd (by simpa using hlast);have hv:=cO hd
   have hnz:vl l≠0:=by
    intro h0;rw[h0] at hc;rw[hc] at h;simp [f8] at h
   refine⟨s*vl l,?_,?_⟩
   ·have:(s*vl l).natAbs=(vl l).toNat:=by rw[XE];rcases hs with rfl | rfl<;>simp<;>omega
    rw[this,←dg_len,←hc];exact hlen
   ·unfold aS
    have:(s*vl l).natAbs=(vl l).toNat:=by rw[XE];rcases hs with rfl | rfl<;>simp<;>omega
    rw[this,←hc]
    congr 1
    rcases hs with rfl | rfl
    ·rw[Xo,XF (by omega)]
    ·rw[Int.neg_mul,Xo,XG,XF (by omega)]
 ·rintro⟨z,hz,h⟩
  cases h;refine⟨fun d hd=>(nH d).2 (eD _ d hd),?_⟩
  by_cases h0:z=0
  ·subst h0;rfl
  ·have hn:dg z.natAbs≠[]:=by rw[Ne,mP];omega
   rw[if_neg (by simp;exact hn)];have hl:=dg_len.2 hz;have hla:=Fb z.natAbs;simp only[XD,Bool.or_eq_true,beq_iff_eq,decide_eq_true_eq,bne_iff_ne,ne_eq];refine⟨⟨?_,hl⟩,hla⟩;rcases Xm z 0 with h | h | h
   ·exact .inr (XH h)
   ·exact absurd h h0
   ·exact .inl (XF h)
theorem bM {z:Int} (h:z.natAbs<LIM):aK (aS z)=true:=(bj _).2 ⟨z,h,rfl⟩
def rh (c:Raw):Raw × Int:=if decide ((c.2.length:Int)>60)=true then ((0,[]),6) else (c,0)
def lg (z:Int):Raw × Int:=if z.natAbs<LIM then (aS z,0) else ((0,[]),6)
def dP (x:Raw × Int):Data:=.tup [.agg (bE x.1),.int .i64 x.2]
theorem Ix (s:Int) (n:Nat):fa s (dg n)=if n=0 then (0,[]) else (s,dg n):=by
 unfold fa;rw[sj]
 by_cases h:n=0
 ·subst h;rfl
 ·have:dg n≠[]:=by rw[Ne,mP];exact h
  rw[if_neg h,if_neg (by simp;exact this)]
theorem cY {s:Int} {n:Nat} {z:Int} (h:z.natAbs=n) (hs:n≠0→s=z.sign):fa s (dg n)=aS z:=by
 rw[Ix];subst h
 by_cases h0:z.natAbs=0
 ·obtain rfl:z=0:=by omega
  rfl
 ·rw[if_neg h0,hs h0]
  rfl
theorem iG (z:Int):rh (aS z)=lg z:=by
 unfold rh lg aS LIM;have:=dg_len (n:=z.natAbs) (k:=60)
 by_cases h:z.natAbs<1048576^60
 ·have:=this.2 h
  rw[if_neg (by simp;omega),if_pos h]
 ·have:=mt this.1 h
  rw[if_pos (by simp;omega),if_neg h]
noncomputable def mB:List Data→Option PRes:=FF (α:=Bool × Int × (List Int)) (fun (r,s,l)=>([.bool r,.agg [.int .i64 s,.sl (l.map aa)]]:List Data)) (fun (r,s,l)=>some (.same (dP (if r=true then rh (s,l) else ((0,[]),1)))))
theorem vH:∀ a b:Bool × Int × (List Int),(fun (r,s,l)=>([.bool r,.agg [.int .i64 s,.sl (l.map aa)]]:List Data)) a=(fun (r,s,l)=>([.bool r,.agg [.int .i64 s,.sl (l.map aa)]]:List Data)) b→a=b:=by
  rintro⟨r1,s1,l1⟩ ⟨r2,s2,l2⟩ h;simp only[List.cons.injEq,Data.bool.injEq,Data.agg.injEq,Data.int.injEq,Data.sl.injEq] at h;exact Wv h.1 (Wv h.2.1.1.2 (af aj _ _ h.2.1.2.1))
@[go_sem] theorem gP (r:Bool) (s:Int) (l:List Int):mB [.bool r,.agg [.int .i64 s,.sl (l.map aa)]]=some (.same (dP (if r=true then rh (s,l) else ((0,[]),1)))):=aX vH (r,s,l)
theorem Hi (T:Tab)  (r:Bool) (s:Int) (l:List Int) :
  wp T mf_big_checked.body (bF mf_big_checked.res (.same (dP (if r=true then rh (s,l) else ((0,[]),1))))) ⟨ax [.dat (.bool r),.dat (.agg [.int .i64 s,.sl (l.map aa)])],emp⟩:=by
 refine ap ?_;simp only[mf_big_checked]
 cases r
 ·refine qI ?_
  repeat' (intro h<;>simp only[h,go_sem,go_sem_proc,Wy,Wz]<;>try refine qS ?_ ?_)
  rfl
 ·refine qI ?_
  repeat' (intro h<;>simp only[h,go_sem,go_sem_proc,Wy,Wz]<;>try refine qS ?_ ?_)
  all_goals (simp only[dP,bE,rh];simp only[XI, *,reduceIte,Bool.not_true,Bool.not_false,Bool.or_true,Bool.true_or,Bool.or_false,Bool.false_or,Bool.and_true,Bool.true_and,XJ,XK,Wy,beq_self_eq_true,bne])
def iQ (a:Raw):Raw:=if aK a=true then aS (-gH a) else (0,[])
theorem r6 (z:Int):fa (-z.sign) (dg z.natAbs)=aS (-z):=cY (by omega) fun _=>by rw[XG]
noncomputable def Eo:List Data→Option PRes:=FF (α:=Int × (List Int)) (fun (s,l)=>([.agg [.int .i64 s,.sl (l.map aa)]]:List Data)) (fun (s,l)=>aH (l.length≤1000000) (.same (.agg (bE (iQ (s,l))))))
theorem Gg:∀ a b:Int × (List Int),(fun (s,l)=>([.agg [.int .i64 s,.sl (l.map aa)]]:List Data)) a=(fun (s,l)=>([.agg [.int .i64 s,.sl (l.map aa)]]:List Data)) b→a=b:=by
  rintro⟨s1,l1⟩ ⟨s2,l2⟩ h;simp only[List.cons.injEq,Data.agg.injEq,Data.int.injEq,Data.sl.injEq] at h;exact Wv h.1.1.2 (af aj _ _ h.1.2.1)
@[go_sem] theorem Rh (s:Int) (l:List Int) (hc:l.length≤1000000):Eo [.agg [.int .i64 s,.sl (l.map aa)]]=some (.same (.agg (bE (iQ (s,l))))):=(aX Gg (s,l)).trans (an hc _)
theorem QG (T:Tab) (al:T ba=mkE eh) (bp:T bP=mkE mV) (aO:T bA=mkE jI) (s:Int) (l:List Int) (hc:l.length≤1000000) :
  wp T mf_big_Neg.body (bF mf_big_Neg.res (.same (.agg (bE (iQ (s,l)))))) ⟨ax [.dat (.agg [.int .i64 s,.sl (l.map aa)])],emp⟩:=by
 refine ap ?_;simp only[mf_big_Neg]
 by_cases hr:aK (s,l)=true
 ·obtain⟨z,hz,e⟩:=(bj _).1 hr
  have e1:iQ (s,l)=aS (-z):=by unfold iQ;rw[if_pos hr,e,aU]
  cases e
  have hw:IntKind.i64.wrap (0-z.sign) = -z.sign:=by
   have:=XL z;rw[ak _ (by omega) (by omega)];omega
  rw[e1];refine qI ?_
  repeat' (intro h<;>simp only[h,go_sem,go_sem_proc,Wy,al,bp,aO,hr,hc,hw,r6,bE]<;>try refine qS ?_ ?_)
 ·have hr:aK (s,l)=false:=by simpa using hr
  have e1:iQ (s,l)=(0,[]):=by unfold iQ;rw[hr];rfl
  rw[e1];refine qI ?_
  repeat' (intro h<;>simp only[h,go_sem,go_sem_proc,Wy,al,bp,aO,hr,hc,bE,XI]<;>try refine qS ?_ ?_)
theorem cS (a:Raw):(a.1,a.2)=a:=rfl
def gj (a b:Raw):Raw × Int:=if (aK a&&aK b)=true then lg (gH a*gH b) else ((0,[]),1)
theorem jH {x y:Int} (hx:x.natAbs<LIM) (hy:y.natAbs<LIM):gj (aS x) (aS y)=lg (x*y):=by
 unfold gj;rw[bM hx,bM hy,aU,aU]
 rfl
theorem fM {z:Int} (h:z.natAbs<LIM):(dg z.natAbs).length≤60:=dg_len.2 h
theorem dY (z:Int):-1≤z.sign∧z.sign≤1:=by
 have:=XL z;omega
noncomputable def vM:List Data→Option PRes:=FF (α:=Int × (List Int) × Int × (List Int)) (fun (s,l,s2,l2)=>([.agg [.int .i64 s,.sl (l.map aa)],.agg [.int .i64 s2,.sl (l2.map aa)]]:List Data)) (fun (s,l,s2,l2)=>aH (l.length≤1000000∧l2.length≤1000000) (.same (dP (gj (s,l) (s2,l2)))))
theorem Gq:∀ a b:Int × (List Int) × Int × (List Int),(fun (s,l,s2,l2)=>([.agg [.int .i64 s,.sl (l.map aa)],.agg [.int .i64 s2,.sl (l2.map aa)]]:List Data)) a=(fun (s,l,s2,l2)=>([.agg [.int .i64 s,.sl (l.map aa)],.agg [.int .i64 s2,.sl (l2.map aa)]]:List Data)) b→a=b:=by
  rintro⟨s1,l1,s21,l21⟩ ⟨s2,l2,s22,l22⟩ h;simp only[List.cons.injEq,Data.agg.injEq,Data.int.injEq,Data.sl.injEq] at h;exact Wv h.1.1.2 (Wv (af aj _ _ h.1.2.1) (Wv h.2.1.1.2 (af aj _ _ h.2.1.2.1)))
@[go_sem] theorem QD (s:Int) (l:List Int) (s2:Int) (l2:List Int) (hc:l.length≤1000000∧l2.length≤1000000):vM [.agg [.int .i64 s,.sl (l.map aa)],.agg [.int .i64 s2,.sl (l2.map aa)]]=some (.same (dP (gj (s,l) (s2,l2)))):=(aX Gq (s,l,s2,l2)).trans (an hc _)
theorem Qd (T:Tab) (al:T ba=mkE eh) (eC:T jb=mkE D0) (aO:T bA=mkE jI) (cm:T cp=mkE mB) (s:Int) (l:List Int) (s2:Int) (l2:List Int) (hc:l.length≤1000000∧l2.length≤1000000) :
  wp T mf_big_Mul.body (bF mf_big_Mul.res (.same (dP (gj (s,l) (s2,l2))))) ⟨ax [.dat (.agg [.int .i64 s,.sl (l.map aa)]),.dat (.agg [.int .i64 s2,.sl (l2.map aa)])],emp⟩:=by
 refine ap ?_;simp only[mf_big_Mul];obtain⟨hl1,hl2⟩:=hc
 by_cases hr:aK (s,l)=true
 ·by_cases hr2:aK (s2,l2)=true
  ·obtain⟨x,hx,e⟩:=(bj _).1 hr
   obtain⟨y,hy,e2⟩:=(bj _).1 hr2;have hm:gj (s,l) (s2,l2)=lg (x*y):=by rw[e,e2];exact jH hx hy
   rw[hm];clear hm
   cases e
   cases e2;have h1:=dY x;have h2:=dY y;have hp:x.sign*y.sign=(x*y).sign:=(Int.sign_mul x y).symm;have h3:=dY (x*y);have hw:IntKind.i64.wrap (x.sign*y.sign)=(x*y).sign:=by rw[hp];exact ak _ (by omega) (by omega)
   have hmul:=tW x.natAbs y.natAbs ⟨XM (fM hx) (by omega),XM (fM hy) (by omega)⟩;simp only[digs] at hmul
   have hlen:(dg (x.natAbs*y.natAbs)).length≤1000000:=by
    refine XM ((dg_len (k:=120)).2 ?_) (by omega);have:(1048576^120:Nat)=LIM*LIM:=by unfold LIM;rw[←Nat.pow_add]
    rw[this];exact Nat.mul_lt_mul'' hx hy
   have hs:fa (x*y).sign (dg (x.natAbs*y.natAbs))=aS (x*y):=cY (XE x y) fun _=>rfl
   refine qI ?_
   repeat' (intro h<;>simp only[h,go_sem,go_sem_proc,Wy,al,eC,aO,cm,hr,hr2,hl1,hl2,hw,hmul,hlen,hs,iG,bE,dP,cS]<;>try refine qS ?_ ?_)
  ·have hr2:aK (s2,l2)=false:=by simpa using hr2
   have hm:gj (s,l) (s2,l2)=((0,[]),1):=by unfold gj;rw[hr2,XJ];rfl
   rw[hm];have hch:=gP false 0 [];simp only[XI] at hch;refine qI ?_
   repeat' (intro h<;>simp only[h,go_sem,go_sem_proc,Wy,al,eC,aO,cm,hr,hr2,hl1,hl2,hch,bE,dP,XI]<;>try refine qS ?_ ?_)
 ·have hr:aK (s,l)=false:=by simpa using hr
  have hm:gj (s,l) (s2,l2)=((0,[]),1):=by unfold gj;rw[hr,XK];rfl
  rw[hm];have hch:=gP false 0 [];simp only[XI] at hch;refine qI ?_
  repeat' (intro h<;>simp only[h,go_sem,go_sem_proc,Wy,al,eC,aO,cm,hr,hl1,hl2,hch,bE,dP,XI]<;>try refine qS ?_ ?_)
def qi (a b:Raw):Raw × Int:=if (aK a&&aK b)=true then lg (gH a+gH b) else ((0,[]),1)
theorem AR {x y:Int} (hx:x.natAbs<LIM) (hy:y.natAbs<LIM):qi (aS x) (aS y)=lg (x+y):=by
 unfold qi;rw[bM hx,bM hy,aU,aU]
 rfl
theorem sR (a b:Nat):(dg (a-b)).length≤(dg a).length:=by
 rw[dg_len];exact Ww (Nat.sub_le a b) (dg_len.1 (Wx _))
noncomputable def KE:List Data→Option PRes:=FF (α:=Int × (List Int) × Int × (List Int)) (fun (s,l,s2,l2)=>([.agg [.int .i64 s,.sl (l.map aa)],.agg [.int .i64 s2,.sl (l2.map aa)]]:List Data)) (fun (s,l,s2,l2)=>aH (l.length≤1000000∧l2.length≤1000000) (.same (dP (qi (s,l) (s2,l2)))))
theorem Fk:∀ a b:Int × (List Int) × Int × (List Int),(fun (s,l,s2,l2)=>([.agg [.int .i64 s,.sl (l.map aa)],.agg [.int .i64 s2,.sl (l2.map aa)]]:List Data)) a=(fun (s,l,s2,l2)=>([.agg [.int .i64 s,.sl (l.map aa)],.agg [.int .i64 s2,.sl (l2.map aa)]]:List Data)) b→a=b:=by
  rintro⟨s1,l1,s21,l21⟩ ⟨s2,l2,s22,l22⟩ h;simp only[List.cons.injEq,Data.agg.injEq,Data.int.injEq,Data.sl.injEq] at h;exact Wv h.1.1.2 (Wv (af aj _ _ h.1.2.1) (Wv h.2.1.1.2 (af aj _ _ h.2.1.2.1)))
@[go_sem] theorem Qa (s:Int) (l:List Int) (s2:Int) (l2:List Int) (hc:l.length≤1000000∧l2.length≤1000000):KE [.agg [.int .i64 s,.sl (l.map aa)],.agg [.int .i64 s2,.sl (l2.map aa)]]=some (.same (dP (qi (s,l) (s2,l2)))):=(aX Fk (s,l,s2,l2)).trans (an hc _)
theorem QO (T:Tab) (al:T ba=mkE eh) (oP:T lJ=mkE Kd) (gk:T ky=mkE DZ) (gD:T jl=mkE D6) (aM:T ej=mkE lW) (aO:T bA=mkE jI) (cm:T cp=mkE mB) (s:Int) (l:List Int) (s2:Int) (l2:List Int) (hc:l.length≤1000000∧l2.length≤1000000) :
  wp T mf_big_Add.body (bF mf_big_Add.res (.same (dP (qi (s,l) (s2,l2))))) ⟨ax [.dat (.agg [.int .i64 s,.sl (l.map aa)]),.dat (.agg [.int .i64 s2,.sl (l2.map aa)])],emp⟩:=by
 refine ap ?_;simp only[mf_big_Add];obtain⟨hl1,hl2⟩:=hc
 by_cases hr:aK (s,l)=true
 ·by_cases hr2:aK (s2,l2)=true
  ·obtain⟨x,hx,e⟩:=(bj _).1 hr
   obtain⟨y,hy,e2⟩:=(bj _).1 hr2;have hm:qi (s,l) (s2,l2)=lg (x+y):=by rw[e,e2];exact AR hx hy
   rw[hm];clear hm
   cases e
   cases e2;have h1:=dY x;have h2:=dY y;have hlx:=fM hx;have hly:=fM hy;have hsx:=XC x;have hsy:=XC y
   have tx:(x.sign=1∧0<x)∨(x.sign=0∧x=0)∨(x.sign = -1∧x<0):=by
    rcases Xm x 0 with h | h | h
    ·exact .inr (.inr ⟨XH h,h⟩)
    ·exact .inr (.inl ⟨by rw[h];rfl,h⟩)
    ·exact .inl ⟨XF h,h⟩
   have ty:(y.sign=1∧0<y)∨(y.sign=0∧y=0)∨(y.sign = -1∧y<0):=by
    rcases Xm y 0 with h | h | h
    ·exact .inr (.inr ⟨XH h,h⟩)
    ·exact .inr (.inl ⟨by rw[h];rfl,h⟩)
    ·exact .inl ⟨XF h,h⟩
   have hadd:=Bv x.natAbs y.natAbs ⟨by omega,by omega⟩
   simp only[digs] at hadd
   have hlen:(dg (x.natAbs+y.natAbs)).length≤1000000:=by
    refine XM ((dg_len (k:=61)).2 ?_) (by omega);have:(1048576^61:Nat)=LIM*1048576:=by unfold LIM;rw[←Xf]
    omega
   have hor:=Iz [x.sign,y.sign] (by simp);simp only[List.map_cons,XI,aa] at hor;have hcm:=mW x.natAbs y.natAbs ⟨by omega,by omega⟩
   simp only[digs] at hcm
   by_cases hp:x.sign*y.sign≥0
   ·have hw:IntKind.i64.wrap (x.sign*y.sign)=x.sign*y.sign:=by
     rcases tx with ⟨e,_⟩ | ⟨e,_⟩ | ⟨e,_⟩<;>rw[e]<;>exact ak _ (by omega) (by omega)
    have hs:fa (orI [x.sign,y.sign]) (dg (x.natAbs+y.natAbs))=aS (x+y):=by
     refine cY ?_ ?_
     ·rcases tx with ⟨e,_⟩ | ⟨e,_⟩ | ⟨e,_⟩<;>rcases ty with ⟨e',_⟩ | ⟨e',_⟩ | ⟨e',_⟩<;>rw[e,e'] at hp<;>omega
     ·intro hn
      rcases tx with ⟨e,_⟩ | ⟨e,_⟩ | ⟨e,_⟩<;>rcases ty with ⟨e',_⟩ | ⟨e',_⟩ | ⟨e',_⟩<;>rw[e,e'] at hp ⊢
      ·exact (XF (by omega)).symm
      ·exact (XF (by omega)).symm
      ·omega
      ·exact (XF (by omega)).symm
      ·omega
      ·exact (XH (by omega)).symm
      ·omega
      ·exact (XH (by omega)).symm
      ·exact (XH (by omega)).symm
    simp only[go_sem,go_sem_proc,Wy,al,oP,gk,gD,aM,aO,cm,hr,hr2,hl1,hl2,hw,hp,decide_true,hor,hadd,hlen,hs,iG,bE,dP,cS]
    repeat' (first|refine qS ?_ ?_|fail)<;>intro h<;>simp only[h,go_sem,go_sem_proc,Wy,al,oP,gk,gD,aM,aO,cm,hr,hr2,hl1,hl2,hw,hp,decide_true,hor,hadd,hlen,hs,iG,bE,dP,cS]
   ·have hw:IntKind.i64.wrap (x.sign*y.sign)=x.sign*y.sign:=by
     rcases tx with ⟨e,_⟩ | ⟨e,_⟩ | ⟨e,_⟩<;>rw[e]<;>exact ak _ (by omega) (by omega)
    by_cases hlt:x.natAbs<y.natAbs
    ·have hcr:decide (fY x.natAbs y.natAbs<0)=true:=by unfold fY;rw[if_pos (by simp;omega)];rfl
     have hsub:=uJ y.natAbs x.natAbs ⟨by omega,by omega⟩
     simp only[digs] at hsub;have hlen2:(dg (y.natAbs-x.natAbs)).length≤1000000:=XM (sR _ _) (by omega)
     have hs:fa y.sign (dg (y.natAbs-x.natAbs))=aS (x+y):=by
      refine cY ?_ ?_
      ·rcases tx with ⟨e,_⟩ | ⟨e,_⟩ | ⟨e,_⟩<;>rcases ty with ⟨e',_⟩ | ⟨e',_⟩ | ⟨e',_⟩<;>rw[e,e'] at hp<;>omega
      ·intro hn
       rcases tx with ⟨e,_⟩ | ⟨e,_⟩ | ⟨e,_⟩<;>rcases ty with ⟨e',_⟩ | ⟨e',_⟩ | ⟨e',_⟩<;>rw[e,e'] at hp<;>rw[e']<;>first | omega | exact (XF (by omega)).symm | exact (XH (by omega)).symm
     simp only[go_sem,go_sem_proc,Wy,al,oP,gk,gD,aM,aO,cm,hr,hr2,hl1,hl2,hw,hp,decide_false,hcm,hcr,hsub,hlen2,hs,iG,bE,dP,cS]
     repeat' (first|refine qS ?_ ?_|fail)<;>intro h<;>simp only[h,go_sem,go_sem_proc,Wy,al,oP,gk,gD,aM,aO,cm,hr,hr2,hl1,hl2,hw,hp,decide_false,hcm,hcr,hsub,hlen2,hs,iG,bE,dP,cS]
    ·have hcr:decide (fY x.natAbs y.natAbs<0)=false:=by unfold fY;rw[if_neg (by simp;omega)];split<;>rfl
     have hsub:=uJ x.natAbs y.natAbs ⟨by omega,by omega⟩
     simp only[digs] at hsub;have hlen2:(dg (x.natAbs-y.natAbs)).length≤1000000:=XM (sR _ _) (by omega)
     have hs:fa x.sign (dg (x.natAbs-y.natAbs))=aS (x+y):=by
      refine cY ?_ ?_
      ·rcases tx with ⟨e,_⟩ | ⟨e,_⟩ | ⟨e,_⟩<;>rcases ty with ⟨e',_⟩ | ⟨e',_⟩ | ⟨e',_⟩<;>rw[e,e'] at hp<;>omega
      ·intro hn
       rcases tx with ⟨e,_⟩ | ⟨e,_⟩ | ⟨e,_⟩<;>rcases ty with ⟨e',_⟩ | ⟨e',_⟩ | ⟨e',_⟩<;>rw[e,e'] at hp<;>rw[e]<;>first | omega | exact (XF (by omega)).symm | exact (XH (by omega)).symm
     simp only[go_sem,go_sem_proc,Wy,al,oP,gk,gD,aM,aO,cm,hr,hr2,hl1,hl2,hw,hp,decide_false,hcm,hcr,hsub,hlen2,hs,iG,bE,dP,cS]
     repeat' (first|refine qS ?_ ?_|fail)<;>intro h<;>simp only[h,go_sem,go_sem_proc,Wy,al,oP,gk,gD,aM,aO,cm,hr,hr2,hl1,hl2,hw,hp,decide_false,hcm,hcr,hsub,hlen2,hs,iG,bE,dP,cS]
  ·have hr2:aK (s2,l2)=false:=by simpa using hr2
   have hm:qi (s,l) (s2,l2)=((0,[]),1):=by unfold qi;rw[hr2,XJ];rfl
   rw[hm];have hch:=gP false 0 [];simp only[XI] at hch;simp only[go_sem,go_sem_proc,Wy,al,oP,gk,gD,aM,aO,cm,hr,hr2,hl1,hl2,hch,bE,dP,XI]
   repeat' (first|refine qS ?_ ?_|fail)<;>intro h<;>simp only[h,go_sem,go_sem_proc,Wy,al,oP,gk,gD,aM,aO,cm,hr,hr2,hl1,hl2,hch,bE,dP,XI]
 ·have hr:aK (s,l)=false:=by simpa using hr
  have hm:qi (s,l) (s2,l2)=((0,[]),1):=by unfold qi;rw[hr,XK];rfl
  rw[hm];have hch:=gP false 0 [];simp only[XI] at hch;simp only[go_sem,go_sem_proc,Wy,al,oP,gk,gD,aM,aO,cm,hr,hl1,hl2,hch,bE,dP,XI]
  repeat' (first|refine qS ?_ ?_|fail)<;>intro h<;>simp only[h,go_sem,go_sem_proc,Wy,al,oP,gk,gD,aM,aO,cm,hr,hl1,hl2,hch,bE,dP,XI]
theorem cC (x:Int):(x.sign=1∧0<x)∨(x.sign=0∧x=0)∨(x.sign = -1∧x<0):=by
 rcases Xm x 0 with h | h | h
 ·exact .inr (.inr ⟨XH h,h⟩)
 ·exact .inr (.inl ⟨by rw[h];rfl,h⟩)
 ·exact .inl ⟨XF h,h⟩
def u5 (a b:Raw):Int:=if (aK a&&aK b)=true then fY (gH a) (gH b) else 0
theorem za {x y:Int} (hx:x.natAbs<LIM) (hy:y.natAbs<LIM):u5 (aS x) (aS y)=fY x y:=by
 unfold u5;rw[bM hx,bM hy,aU,aU]
 rfl
theorem qd {x y:Int} (h:x<y):fY x y = -1:=by unfold fY;rw[if_pos (by simpa using h)]
theorem pD {x y:Int} (h:y<x):fY x y=1:=by unfold fY;rw[if_neg (by simp;omega),if_pos (by simpa using h)]
theorem sS (x:Int):fY x x=0:=by unfold fY;simp
noncomputable def rC:List Data→Option PRes:=FF (α:=Int × (List Int) × Int × (List Int)) (fun (s,l,s2,l2)=>([.agg [.int .i64 s,.sl (l.map aa)],.agg [.int .i64 s2,.sl (l2.map aa)]]:List Data)) (fun (s,l,s2,l2)=>aH (l.length≤1000000∧l2.length≤1000000) (.same (.int .i64 (u5 (s,l) (s2,l2)))))
theorem vr:∀ a b:Int × (List Int) × Int × (List Int),(fun (s,l,s2,l2)=>([.agg [.int .i64 s,.sl (l.map aa)],.agg [.int .i64 s2,.sl (l2.map aa)]]:List Data)) a=(fun (s,l,s2,l2)=>([.agg [.int .i64 s,.sl (l.map aa)],.agg [.int .i64 s2,.sl (l2.map aa)]]:List Data)) b→a=b:=by
  rintro⟨s1,l1,s21,l21⟩ ⟨s2,l2,s22,l22⟩ h;simp only[List.cons.injEq,Data.agg.injEq,Data.int.injEq,Data.sl.injEq] at h;exact Wv h.1.1.2 (Wv (af aj _ _ h.1.2.1) (Wv h.2.1.1.2 (af aj _ _ h.2.1.2.1)))
@[go_sem] theorem KX (s:Int) (l:List Int) (s2:Int) (l2:List Int) (hc:l.length≤1000000∧l2.length≤1000000):rC [.agg [.int .i64 s,.sl (l.map aa)],.agg [.int .i64 s2,.sl (l2.map aa)]]=some (.same (.int .i64 (u5 (s,l) (s2,l2)))):=(aX vr (s,l,s2,l2)).trans (an hc _)
theorem GF (T:Tab) (al:T ba=mkE eh) (fC:T dA=mkE xM) (aM:T ej=mkE lW) (s:Int) (l:List Int) (s2:Int) (l2:List Int) (hc:l.length≤1000000∧l2.length≤1000000) :
  wp T mf_big_Compare.body (bF mf_big_Compare.res (.same (.int .i64 (u5 (s,l) (s2,l2))))) ⟨ax [.dat (.agg [.int .i64 s,.sl (l.map aa)]),.dat (.agg [.int .i64 s2,.sl (l2.map aa)])],emp⟩:=by
 refine ap ?_;simp only[mf_big_Compare];obtain⟨hl1,hl2⟩:=hc
 by_cases hr:aK (s,l)=true
 ·by_cases hr2:aK (s2,l2)=true
  ·obtain⟨x,hx,e⟩:=(bj _).1 hr
   obtain⟨y,hy,e2⟩:=(bj _).1 hr2;have hm:u5 (s,l) (s2,l2)=fY x y:=by rw[e,e2];exact za hx hy
   rw[hm];clear hm
   cases e
   cases e2;have hlx:=fM hx;have hly:=fM hy;have hcm:=mW x.natAbs y.natAbs ⟨by omega,by omega⟩
   simp only[digs] at hcm
   by_cases hs:x.sign=y.sign
   ·have hse:(x.sign==y.sign)=true:=by simpa using hs
    have hres:IntKind.i64.wrap (y.sign*fY x.natAbs y.natAbs)=fY x y:=by
     rcases cC x with ⟨e,h1⟩ | ⟨e,h1⟩ | ⟨e,h1⟩<;>rcases cC y with ⟨e',h2⟩ | ⟨e',h2⟩ | ⟨e',h2⟩<;>rw[e,e'] at hs<;>first | omega | skip
     ·rw[e',Xo,show (x.natAbs:Int)=x by omega,show (y.natAbs:Int)=y by omega]
      rcases Xm x y with h | h | h
      ·rw[qd h];rfl
      ·rw[h,sS];rfl
      ·rw[pD h];rfl
     ·rw[e',h1,h2];rfl
     ·rw[e']
      rcases Xm x y with h | h | h
      ·rw[qd h,pD (by omega)];rfl
      ·rw[h,sS,sS];rfl
      ·rw[pD h,qd (by omega)];rfl
    rw[←hs] at hres;simp only[go_sem,go_sem_proc,Wy,al,fC,aM,hr,hr2,hl1,hl2,hse,hcm,hres]
    repeat' (first|refine qS ?_ ?_|fail)<;>intro h<;>simp only[h,go_sem,go_sem_proc,Wy,al,fC,aM,hr,hr2,hl1,hl2,hse,hcm,hres]
   ·have hse:(x.sign==y.sign)=false:=by simpa using hs
    have hres:fY x.sign y.sign=fY x y:=by
     rcases cC x with ⟨e,h1⟩ | ⟨e,h1⟩ | ⟨e,h1⟩<;>rcases cC y with ⟨e',h2⟩ | ⟨e',h2⟩ | ⟨e',h2⟩<;>rw[e,e'] at hs ⊢<;>first | omega | (rw[qd (show x<y by omega)];rfl) | (rw[pD (show y<x by omega)];rfl)
    simp only[go_sem,go_sem_proc,Wy,al,fC,aM,hr,hr2,hl1,hl2,hse,hres]
    repeat' (first|refine qS ?_ ?_|fail)<;>intro h<;>simp only[h,go_sem,go_sem_proc,Wy,al,fC,aM,hr,hr2,hl1,hl2,hse,hres]
  ·have hr2:aK (s2,l2)=false:=by simpa using hr2
   have hm:u5 (s,l) (s2,l2)=0:=by unfold u5;rw[hr2,XJ];rfl
   rw[hm];simp only[go_sem,go_sem_proc,Wy,al,fC,aM,hr,hr2,hl1,hl2]
   repeat' (first|refine qS ?_ ?_|fail)<;>intro h<;>simp only[h,go_sem,go_sem_proc,Wy,al,fC,aM,hr,hr2,hl1,hl2]
 ·have hr:aK (s,l)=false:=by simpa using hr
  have hm:u5 (s,l) (s2,l2)=0:=by unfold u5;rw[hr,XK];rfl
  rw[hm];simp only[go_sem,go_sem_proc,Wy,al,fC,aM,hr,hl1,hl2]
  repeat' (first|refine qS ?_ ?_|fail)<;>intro h<;>simp only[h,go_sem,go_sem_proc,Wy,al,fC,aM,hr,hl1,hl2]
def kg (a b:Raw):Raw × Int:=if (aK a&&aK b)=true then (aS (XN (gH a).natAbs (gH b).natAbs:Nat),0) else ((0,[]),1)
theorem pU {x y:Int} (hx:x.natAbs<LIM) (hy:y.natAbs<LIM):XN x.natAbs y.natAbs<LIM:=by
 rcases XO x.natAbs with h | h
 ·rw[h,Nat.gcd_zero_left];exact hy
 ·exact Ww (Nat.gcd_le_left _ h) hx
noncomputable def El:List Data→Option PRes:=FF (α:=Int × (List Int) × Int × (List Int)) (fun (s,l,s2,l2)=>([.agg [.int .i64 s,.sl (l.map aa)],.agg [.int .i64 s2,.sl (l2.map aa)]]:List Data)) (fun (s,l,s2,l2)=>aH (l.length≤1000000∧l2.length≤1000000) (.same (dP (kg (s,l) (s2,l2)))))
theorem Fu:∀ a b:Int × (List Int) × Int × (List Int),(fun (s,l,s2,l2)=>([.agg [.int .i64 s,.sl (l.map aa)],.agg [.int .i64 s2,.sl (l2.map aa)]]:List Data)) a=(fun (s,l,s2,l2)=>([.agg [.int .i64 s,.sl (l.map aa)],.agg [.int .i64 s2,.sl (l2.map aa)]]:List Data)) b→a=b:=by
  rintro⟨s1,l1,s21,l21⟩ ⟨s2,l2,s22,l22⟩ h;simp only[List.cons.injEq,Data.agg.injEq,Data.int.injEq,Data.sl.injEq] at h;exact Wv h.1.1.2 (Wv (af aj _ _ h.1.2.1) (Wv h.2.1.1.2 (af aj _ _ h.2.1.2.1)))
@[go_sem] theorem QU (s:Int) (l:List Int) (s2:Int) (l2:List Int) (hc:l.length≤1000000∧l2.length≤1000000):El [.agg [.int .i64 s,.sl (l.map aa)],.agg [.int .i64 s2,.sl (l2.map aa)]]=some (.same (dP (kg (s,l) (s2,l2)))):=(aX Fu (s,l,s2,l2)).trans (an hc _)
theorem Rj (T:Tab) (al:T ba=mkE eh) (bp:T bP=mkE mV) (iE:T kI=mkE EN) (aO:T bA=mkE jI) (cm:T cp=mkE mB) (s:Int) (l:List Int) (s2:Int) (l2:List Int) (hc:l.length≤1000000∧l2.length≤1000000) :
  wp T mf_big_Gcd.body (bF mf_big_Gcd.res (.same (dP (kg (s,l) (s2,l2))))) ⟨ax [.dat (.agg [.int .i64 s,.sl (l.map aa)]),.dat (.agg [.int .i64 s2,.sl (l2.map aa)])],emp⟩:=by
 refine ap ?_;simp only[mf_big_Gcd];obtain⟨hl1,hl2⟩:=hc
 by_cases hr:aK (s,l)=true
 ·by_cases hr2:aK (s2,l2)=true
  ·obtain⟨x,hx,e⟩:=(bj _).1 hr
   obtain⟨y,hy,e2⟩:=(bj _).1 hr2
   have hm:kg (s,l) (s2,l2)=(aS (XN x.natAbs y.natAbs:Nat),0):=by
    rw[e,e2];unfold kg
    rw[bM hx,bM hy,aU,aU]
    rfl
   rw[hm];clear hm
   cases e
   cases e2;have hlx:=fM hx;have hly:=fM hy;have hg:=pU hx hy;generalize hX:x.natAbs=X at *;generalize hY:y.natAbs=Y at *;have hl1':(dg X).length≤1000000:=by omega
   simp only[go_sem,go_sem_proc,Wy,al,bp,iE,aO,cm,hr,hr2,hX,hY,hl1,hl2,hl1',aa,Wz];refine ae [4] [137004] (fun ((a,b):Nat × Nat) tm mem=>a<LIM∧b<LIM∧XN X Y=XN a b∧tm 6 = .dat (.sl ((dg a).map aa))∧tm 7 = .dat (.sl ((dg b).map aa))) (fun (_,b)=>b) (X,Y) (by refine⟨hx,hy,rfl,rfl,rfl⟩) ?_
   intro vs ms hvs hms;simp only[go_sem,go_sem_proc,Wy,al,bp,iE,aO,cm,hX,hY] at hvs hms;subst hvs hms;rintro⟨a,b⟩ tm mem hk hm ⟨ha,hb,hgc,h6,h7⟩;simp only[go_sem,go_sem_proc,Wy,al,bp,iE,aO,cm,List.cons.injEq] at hk hm;have h4:=hk;have hla:(dg a).length≤60:=dg_len.2 ha;have hlb:(dg b).length≤60:=dg_len.2 hb;rcases XO b with h0 | hpos
   ·subst h0
    have hz:dg 0=[]:=rfl;have hla':(dg a).length≤1000000:=by omega
    rw[Nat.gcd_zero_right] at hgc;have hs:fa 1 (dg a)=aS ((a:Nat):Int):=cY (by simp) fun hn=>(XF (by omega)).symm
    have hk:lg ((a:Nat):Int)=(aS ((a:Nat):Int),0):=by unfold lg;rw[if_pos (by simpa using ha)]
    rw[hgc];refine qI ?_
    repeat' (intro h<;>simp only[h,go_sem,go_sem_proc,Wy,al,bp,iE,aO,cm,h4,h6,h7,hm,hz,hla',hs,hk,iG,bE,dP,cS,XI,List.length_nil,W3,W4,show ¬ ((0:Int)>0) by omega,decide_false]<;>try refine qS ?_ ?_)
   ·have hne:decide (((dg b).length:Int)>0)=true:=by
     have:dg b≠[]:=by rw[Ne,mP];omega
     have:=List.length_pos_iff.2 this;exact decide_eq_true (by omega)
    have hdiv:=z7 a b ⟨by omega,by omega,hpos⟩
    simp only[digs] at hdiv;refine qI ?_
    repeat' (intro h<;>simp only[h,go_sem,go_sem_proc,Wy,al,bp,iE,aO,cm,h4,h6,h7,hm,hne,hdiv,Wz]<;>try refine qS ?_ ?_)
    exact⟨(b,a % b),Nat.mod_lt _ hpos,hb,Ww (Nat.mod_le _ _) ha,by dsimp only;rw[hgc,XP a b,Nat.gcd_rec b a,XP],rfl,rfl⟩
  ·have hr2:aK (s2,l2)=false:=by simpa using hr2
   have hm:kg (s,l) (s2,l2)=((0,[]),1):=by unfold kg;rw[hr2,XJ];rfl
   rw[hm];have hch:=gP false 0 [];simp only[XI] at hch;refine qI ?_
   repeat' (intro h<;>simp only[h,go_sem,go_sem_proc,Wy,al,bp,iE,aO,cm,hr,hr2,hl1,hl2,hch,bE,dP,XI]<;>try refine qS ?_ ?_)
 ·have hr:aK (s,l)=false:=by simpa using hr
  have hm:kg (s,l) (s2,l2)=((0,[]),1):=by unfold kg;rw[hr,XK];rfl
  rw[hm];have hch:=gP false 0 [];simp only[XI] at hch;refine qI ?_
  repeat' (intro h<;>simp only[h,go_sem,go_sem_proc,Wy,al,bp,iE,aO,cm,hr,hl1,hl2,hch,bE,dP,XI]<;>try refine qS ?_ ?_)
end Go.Mini
