/- A part of the proof. -/
import Derived.Test.YtdbkjjoedjfmpaaM04
set_option linter.unusedSimpArgs false
set_option linter.unusedVariables false
open Nat renaming mod_eq_of_lt → Wr, lt_of_le_of_lt → Wz, le_refl → WA, zero_le → WD, mul_one → WJ, add_assoc → WT, pow_succ → Xi, min_eq_left → Xx, pow_le_pow_right → XC, mul_le_mul_left → XE, le_trans → XP, gcd → XQ, eq_zero_or_pos → XR, gcd_comm → XS
open Int renaming pow_succ → Ws, mul_add → Wt, mul_assoc → Wu, mul_comm → Wv, emod_add_mul_ediv → Ww, mul_sub → Wx, mul_nonneg → WM, mul_le_mul → WN, pow_add → WU, zero_add → WV, sub_zero → WW, add_mul → WX, natCast_ediv → WZ, add_comm → W0, add_mul_ediv_left → W1, ediv_eq_zero_of_lt → W2, natCast_emod → W3, add_mul_emod_self_left → W4, emod_eq_of_lt → W5, natCast_zero → W6, cast_ofNat_Int → W7, toNat_natCast → W8, toNat → W9, ediv_nonneg → Xa, ediv_lt_of_lt_mul → Xb, mul_le_mul_of_nonneg_right → Xc, tdiv_eq_ediv_of_nonneg → Xd, tmod_eq_emod_of_nonneg → Xe, emod_nonneg → Xf, emod_lt_of_pos → Xg, mul_left_comm → Xh, mul_zero → Xl, natCast_pow → Xm, mul_le_mul_of_nonneg_left → Xo, add_zero → Xp, lt_trichotomy → Xq, one_mul → Xr, sub_mul → Xs, mul_right_comm → Xt, pow_pos → XB, natCast_mul → XD, sign_mul_natAbs → XF, natAbs_mul → XH, sign_eq_one_of_pos → XI, sign_neg → XJ, sign_eq_neg_one_of_neg → XK, sign_trichotomy → XO
open Prod renaming ext → Wy
open Bool renaming false_eq_true → WB, and_eq_true → XG, and_false → XM, false_and → XN
open List renaming length_map → WC, drop_eq_getElem_cons → WF, drop_set_of_lt → WG, getElem_set_self → WH, getElem?_eq_getElem → WI, getElem?_map → WK, take_of_length_le → WL, replicate → WO, getElem?_drop → WP, length_set → WQ, replicate_succ → WR, mem_replicate → WS, drop_zero → WY, append_assoc → Xj, append_inj → Xk, drop_drop → Xu, take_append_drop → Xv, length_drop → Xw, mem_of_mem_drop → Xy, mem_singleton → Xz, length_take → XA, map_nil → XL
open Decidable renaming em → WE
namespace Go.Mini
open Go
set_option maxRecDepth 10000
set_option maxHeartbeats 1000000
theorem EN (n:Int):bits .and .i64 (n / 1048576) 1=n / 1048576 % 2:=by
 generalize n / 1048576=m;have h2:(1:Int)=((2^1-1:Nat):Int):=by decide
 have h1:m % 18446744073709551616 % 2=m % 2:=by omega
 obtain⟨a,ha⟩:∃ a:Nat,(a:Int)=m % 18446744073709551616:=⟨(m % 18446744073709551616).toNat,by omega⟩
 have e:BitVec.ofInt 64 m=BitVec.ofNat 64 a:=by
  apply BitVec.eq_of_toInt_eq;rw[BitVec.toInt_ofInt,BitVec.toInt_ofNat',ha];simp [Int.bmod_def,Int.emod_emod_of_dvd]
 have e2:bits .and .i64 m 1=bits .and .i64 (a:Int) 1:=by
  simp only[bits];rw[show IntKind.i64.bits=64 from rfl,e,BitVec.ofInt_natCast]
 rw[e2,←h1,←ha];have ha64:a<2^64:=by omega
 conv=>lhs;rw[h2]
 simp only[bits,BitVec.ofInt_natCast,BitVec.toNat_and,BitVec.toNat_ofNat,show IntKind.i64.bits=64 from rfl,Wr ha64];rw[show (2^1-1:Nat) % 2^64=2^1-1 by decide,Nat.and_two_pow_sub_one_eq_mod,aj _ (by omega) (by omega)]
 omega
theorem Ca (o:List Int) (j:Nat) (d:Int) (h:j<o.length):vl (o.set j d)=vl o+1048576^j*(d-o[j]):=by
 induction o generalizing j with
 | nil=>simp at h
 | cons x r ih =>
  cases j with
  | zero=>simp [vl];omega
  | succ j =>
   simp only[List.set_cons_succ,gN,List.getElem_cons_succ,Ws];rw[ih j (by simpa using h),Wt,←Wu,Wv 1048576 (1048576^j)];omega
theorem kn {o:List Int} (h:isD o) (j:Nat) {d:Int} (hd:0≤d∧d<1048576):isD (o.set j d):=by
 intro x hx;rcases List.mem_or_eq_of_mem_set hx with h1 | h1
 ·exact h x h1
 ·rw[h1];exact hd
theorem Js (p vo va vb c a b:Int) (h:vo=va-vb+p*c):vo+p*((a-c-b) % 1048576)=va+p*a-(vb+p*b)-p*1048576*((a-c-b) / 1048576):=by
 have h1:=Ww (a-c-b) 1048576
 have h2:p*((a-c-b) % 1048576)+p*1048576*((a-c-b) / 1048576)=p*(a-c-b):=by
  rw[Wu,←Wt,h1]
 have h3:p*(a-c-b)=p*a-p*c-p*b:=by rw[Wx,Wx]
 omega
noncomputable def EA:List Data→Option PRes:=FF (α:=Nat × Nat) (fun (x,y)=>([digs x,digs y]:List Data)) (fun (x,y)=>aG ((dg x).length≤100000∧y≤x) (.own 1 ((dg (x-y)).map aa)))
theorem FP:∀ a b:Nat × Nat,(fun (x,y)=>([digs x,digs y]:List Data)) a=(fun (x,y)=>([digs x,digs y]:List Data)) b→a=b:=by
  rintro⟨x1,y1⟩ ⟨x2,y2⟩ h;simp only[List.cons.injEq,digs,Data.sl.injEq] at h;exact Wy (eR (af ai _ _ h.1)) (eR (af ai _ _ h.2.1))
@[go_sem] theorem uS (x:Nat) (y:Nat) (hc:(dg x).length≤100000∧y≤x):EA [digs x,digs y]=some (.own 1 ((dg (x-y)).map aa)):=(aV FP (x,y)).trans (an hc _)
theorem Sa (T:Tab) (aS:T bt=mkE lk) (a0:T cr=yA nb jZ) (x:Nat) (y:Nat) (hc:(dg x).length≤100000∧y≤x) :
  wp T mf_big_sub.body (bG mf_big_sub.res (.own 1 ((dg (x-y)).map aa))) ⟨ax [.dat (digs x),.dat (digs y)],emp⟩:=by
 refine ap ?_;simp only[mf_big_sub];obtain⟨hx,hyx⟩:=hc;have hdx:=eB x;have hdy:=eB y;have hvx:=f7 x;have hvy:=f7 y
 have hly:(dg y).length≤(dg x).length:=by
  rw[dg_len];exact Wz hyx (dg_len.1 (WA _))
 generalize ha:dg x=a at *;generalize hb:dg y=b at *;have hla:a.length≤1000000:=by omega
 simp only[go_sem,go_sem_proc,WB,aS,a0,digs,ha,hb,hla,WC]
 refine ae [1,5,12] [] (fun (i,c,o) tm mem=>i≤a.length∧(o:List Int).length=a.length∧isD o∧o.drop i=a.drop i∧(c=0∨c=1)∧vl (o.take i)=vl (a.take i)-vl (b.take i)+1048576^i*c∧tm 13 = .dat (.int .i64 (i:Nat))∧tm 6 = .dat (.int .i64 c)∧mem 173010=some (0,ay aa o))
  (fun (i,_)=>a.length-i) (0,0,a) (by refine⟨WD _,rfl,hdx,rfl,.inl rfl,by simp [vl],?_,?_,?_⟩<;>rfl) ?_
 intro vs ms hvs hms;simp only[go_sem,go_sem_proc,WB,aS,a0,digs,ha,hb,WC] at hvs hms;subst hvs hms;rintro⟨i,c,o⟩ tm mem hk-⟨hi,ho,hdo,hdr,hc01,hvi,h13,h6,hm⟩;simp only[go_sem,go_sem_proc,WB,aS,a0,List.cons.injEq] at hk;obtain⟨h1,h5,h12⟩:=hk;rcases WE (i<a.length) with hlt | hge
 ·have hio:i<o.length:=by omega
  have hoi:o[i]=a[i]:=by
   have h1:=WF hio;have h2:=WF hlt;rw[hdr,h2] at h1;exact (List.cons.inj h1).1.symm
  have hai:=dO hdx i hlt;have hw2:IntKind.i64.wrap ((i:Int)+1)=((i+1:Nat):Int):=by rw[aj _ (by omega) (by omega)];rfl
  have hio':i+1≤(ay aa o).length:=by rw[eW];omega
  have hget:=qJ o i hio;rw[hoi] at hget;have hw3:IntKind.i64.wrap (a[i]-c)=a[i]-c:=aj _ (by omega) (by omega);have hfold:=fun d=>ia o i d hio
  have fin:∀ bi:Int,0≤bi→bi<1048576→vl (b.take (i+1))=vl (b.take i)+1048576^i*bi →
    ∃ i':Nat × Int × List Int,a.length-i'.1<a.length-i∧i'.1≤a.length∧i'.2.2.length=a.length∧isD i'.2.2∧i'.2.2.drop i'.1=a.drop i'.1∧(i'.2.1=0∨i'.2.1=1)∧vl (i'.2.2.take i'.1)=vl (a.take i'.1)-vl (b.take i'.1)+1048576^i'.1*i'.2.1 ∧
     MV.dat (Data.int .i64 ((i+1:Nat):Int))=MV.dat (Data.int .i64 (i'.1:Int))∧MV.dat (Data.int .i64 ((a[i]-c-bi) / 1048576 % 2))=MV.dat (Data.int .i64 i'.2.1)∧some (0,ay aa (o.set i ((a[i]-c-bi) % 1048576)))=some (0,ay aa i'.2.2):=by
   intro bi hb0 hb1 hvb;have hq:(a[i]-c-bi) / 1048576=0∨(a[i]-c-bi) / 1048576 = -1:=by omega
   refine⟨(i+1,(a[i]-c-bi) / 1048576 % 2,o.set i ((a[i]-c-bi) % 1048576)),by dsimp only;omega,by dsimp only;omega,by simp [ho],kn hdo i (by omega),?_,by dsimp only;omega,?_,rfl,rfl,rfl⟩
   ·dsimp only
    rw[WG (by omega)];have h1:=WF hio;have h2:=WF hlt;rw[hdr,h2] at h1;exact (List.cons.inj h1).2.symm
   ·dsimp only
    rw[ba _ _ (by simpa using hio),kO,ba a i hlt,hvb,Ws];simp only[WH];rw[Js _ _ _ _ _ _ _ hvi];rcases hq with e | e<;>rw[e]<;>simp
  have hdec2:decide ((i:Int)<(a.length:Int))=true:=decide_eq_true (by omega);rcases WE (i<b.length) with hlb' | hgb'
  ·have hgb:b[i]?=some b[i]:=WI hlb'
   have hbi:=dO hdy i hlb';have hw4:IntKind.i64.wrap (a[i]-c-b[i])=a[i]-c-b[i]:=aj _ (by omega) (by omega);have hdec:decide ((i:Int)<(b.length:Int))=true:=decide_eq_true (by omega);refine qI ?_
   repeat' (intro h<;>simp only[h,go_sem,go_sem_proc,WB,aS,a0,h1,h5,h12,h13,h6,hm,hgb,hw2,hw3,hw4,hdec,hdec2,hlt,hio',hget,hfold,dX,EN,fdivm,aa,WJ,WC,WK,List.cons.injEq,show ¬ ((20:Int)<0) by omega]<;>try refine qS ?_ ?_)
   exact fin b[i] hbi.1 hbi.2 (ba b i hlb')
  ·have hdec:decide ((i:Int)<(b.length:Int))=false:=decide_eq_false (by omega)
   refine qI ?_
   repeat' (intro h<;>simp only[h,go_sem,go_sem_proc,WB,aS,a0,h1,h5,h12,h13,h6,hm,hw2,hw3,hdec,hdec2,hlt,hio',hget,hfold,dX,EN,fdivm,aa,WJ,WC,WK,List.cons.injEq,show ¬ ((20:Int)<0) by omega]<;>try refine qS ?_ ?_)
   have:=fin 0 (by omega) (by omega) (by rw[WL (by omega),WL (by omega)];simp)
   simpa using this
 ·obtain rfl:i=a.length:=by omega
  have hdec2:decide ((a.length:Int)<(a.length:Int))=false:=decide_eq_false (by omega);rw[WL (by omega),WL (by omega),WL (by omega),hvx,hvy] at hvi
  have hvo:vl o=((x-y:Nat):Int):=by
   have h1:=qn hdo;rw[ho] at h1;rcases hc01 with rfl | rfl
   ·rw[hvi];omega
   ·omega
  have hG:=rb o 173010 0 mem hm (by omega);rw[ho] at hG;have hO:=uo hm hdo hvo;refine qI ?_
  repeat' (intro h<;>simp only[h,go_sem,go_sem_proc,WB,aS,a0,h1,h5,h12,h13,h6,hm,hdec2,hG,hO,WC]<;>try refine qS ?_ ?_)
theorem zH (p vo V c x y oj:Int) (h:vo+p*c=V):vo+p*((oj+x*y+c) % 1048576-oj)+p*1048576*((oj+x*y+c) / 1048576)=V+p*(x*y):=by
 have h1:=Ww (oj+x*y+c) 1048576
 have h2:p*((oj+x*y+c) % 1048576)+p*1048576*((oj+x*y+c) / 1048576)=p*(oj+x*y+c):=by
  rw[Wu,←Wt,h1]
 have h3:p*(oj+x*y+c)=p*oj+p*(x*y)+p*c:=by rw[Wt,Wt]
 rw[Wx];omega
theorem xb {o x y c:Int} (ho:0≤o∧o<1048576) (hx:0≤x∧x<1048576) (hy:0≤y∧y<1048576) (hc:0≤c∧c<1048576) :
  0≤x*y∧x*y≤1099509530625∧0≤(o+x*y+c) / 1048576∧(o+x*y+c) / 1048576<1048576:=by
 have h1:0≤x*y:=WM hx.1 hy.1;have h2:x*y≤1048575*1048575:=WN (by omega) (by omega) hy.1 (by omega);omega
theorem zj {o:List Int} {n j:Nat} (h:o.drop n=WO (o.length-n) 0) (hj:n≤j) (hlt:j<o.length):o[j]=0:=by
 have h1:(o.drop n)[j-n]?=some o[j]:=by rw[WP,show n+(j-n)=j by omega,WI hlt]
 rw[h,List.getElem?_replicate] at h1
 split at h1
 ·exact (Option.some.inj h1).symm
 ·cases h1
theorem uL {o:List Int} {n:Nat} {d:Int} (h:o.drop n=WO (o.length-n) 0) (hlt:n<o.length):(o.set n d).drop (n+1)=WO ((o.set n d).length-(n+1)) 0:=by
 rw[WG (by omega),WQ];have h1:=WF hlt;rw[h,show o.length-n=(o.length-(n+1))+1 by omega,WR] at h1
 exact (List.cons.inj h1).2.symm
noncomputable def EG:List Data→Option PRes:=FF (α:=Nat × Nat) (fun (x,y)=>([digs x,digs y]:List Data)) (fun (x,y)=>aG ((dg x).length≤10000∧(dg y).length≤10000) (.own 1 ((dg (x*y)).map aa)))
theorem Gr:∀ a b:Nat × Nat,(fun (x,y)=>([digs x,digs y]:List Data)) a=(fun (x,y)=>([digs x,digs y]:List Data)) b→a=b:=by
  rintro⟨x1,y1⟩ ⟨x2,y2⟩ h;simp only[List.cons.injEq,digs,Data.sl.injEq] at h;exact Wy (eR (af ai _ _ h.1)) (eR (af ai _ _ h.2.1))
@[go_sem] theorem tT (x:Nat) (y:Nat) (hc:(dg x).length≤10000∧(dg y).length≤10000):EG [digs x,digs y]=some (.own 1 ((dg (x*y)).map aa)):=(aV Gr (x,y)).trans (an hc _)
theorem QD (T:Tab) (a0:T cr=yA nb jZ) (x:Nat) (y:Nat) (hc:(dg x).length≤10000∧(dg y).length≤10000) :
  wp T mf_big_mul.body (bG mf_big_mul.res (.own 1 ((dg (x*y)).map aa))) ⟨ax [.dat (digs x),.dat (digs y)],emp⟩:=by
 refine ap ?_;simp only[mf_big_mul];obtain⟨hx,hy⟩:=hc;have hdx:=eB x;have hdy:=eB y;have hvx:=f7 x;have hvy:=f7 y;generalize ha:dg x=a at *;generalize hb:dg y=b at *;have hw1:IntKind.i64.wrap ((a.length:Int)+(b.length:Int))=((a.length+b.length:Nat):Int):=by rw[aj _ (by omega) (by omega)];rfl
 have hb1:8*(a.length+b.length)≤140737488355328:=by omega
 have hb2:a.length+b.length≤maxLen:=jh _ (by omega);simp only[go_sem,go_sem_proc,WB,a0,digs,ha,hb,hw1,hb1,hb2,mb,WC]
 refine ae [1,5,18,19] [] (fun (i,o) tm mem=>i≤a.length∧(o:List Int).length=a.length+b.length∧isD o∧o.drop (i+b.length)=WO (o.length-(i+b.length)) 0∧vl o=vl (a.take i)*y∧tm 20 = .dat (.int .i64 (i:Nat))∧mem 161017=some (0,ay aa o))
  (fun (i,_)=>a.length-i) (0,WO (a.length+b.length) 0) (by
   have hz:∀ n,vl (WO n 0)=0:=by
    intro n
    induction n with
    | zero=>rfl
    | succ n ih=>rw[WR,gN,ih];rfl
   refine⟨WD _,by simp,fun d hd=>by rw[WS] at hd;omega,by simp,by rw[hz];simp [vl],?_,?_⟩<;>rfl) ?_
 intro vs ms hvs hms;simp only[go_sem,go_sem_proc,WB,a0,digs,ha,hb,hw1,WC] at hvs hms;subst hvs hms;rintro⟨i,o⟩ tm mem hk-⟨hi,ho,hdo,hzr,hvi,h20,hm⟩;simp only[go_sem,go_sem_proc,WB,a0,List.cons.injEq] at hk;obtain⟨h1,h5,h18,h19⟩:=hk;rcases WE (i<a.length) with hlt | hge
 ·have hga:a[i]?=some a[i]:=WI hlt
  have hai:=dO hdx i hlt;have hts:=ba a i hlt;generalize a[i]=xi at *;have hdec:decide ((i:Int)<(a.length:Int))=true:=decide_eq_true (by omega);simp only[go_sem,go_sem_proc,WB,a0,h1,h5,h18,h19,h20,hga,hdec,aa,WC,WK,List.cons.injEq]
  refine ae [1,5,6,7,18,19,20,25,26] [] (fun ((k,c,o):Nat × Int × List Int) tm mem=>k≤b.length∧o.length=a.length+b.length∧isD o∧o.drop (i+b.length)=WO (o.length-(i+b.length)) 0∧0≤c∧c<1048576∧vl o+1048576^(i+k)*c=vl (a.take i)*y+1048576^i*(xi*vl (b.take k)) ∧
    tm 27 = .dat (.int .i64 (k:Nat))∧tm 8 = .dat (.int .i64 c)∧mem 161017=some (0,ay aa o))
   (fun (k,_)=>b.length-k) (0,0,o) (by refine⟨WD _,ho,hdo,hzr,by omega,by omega,by simp [vl,hvi],?_,?_,hm⟩<;>rfl) ?_
  intro vs ms hvs hms;simp only[go_sem,go_sem_proc,WB,a0,h1,h5,h18,h19,h20,aa,WC] at hvs hms;subst hvs hms;rintro⟨k,c,o⟩ tm mem hk-⟨hki,ho,hdo,hzr,hc0,hc1,hvi,h27,h8,hm⟩;simp only[go_sem,go_sem_proc,WB,a0,List.cons.injEq] at hk;obtain⟨h1,h5,h6,h7,h18,h19,h20,h25,h26⟩:=hk;rcases WE (k<b.length) with hkb | hkb
  ·have hgb:b[k]?=some b[k]:=WI hkb
   have hbk:=dO hdy k hkb;have hjo:i+k<o.length:=by omega
   have hoj:=dO hdo (i+k) hjo;obtain⟨m1,m2,m3,m4⟩:=xb hoj hai hbk ⟨hc0,hc1⟩;have hdec:decide ((k:Int)<(b.length:Int))=true:=decide_eq_true (by omega);have hw2:IntKind.i64.wrap ((k:Int)+1)=((k+1:Nat):Int):=by rw[aj _ (by omega) (by omega)];rfl
   have hw3:IntKind.i64.wrap ((i:Int)+(k:Int))=((i+k:Nat):Int):=by rw[aj _ (by omega) (by omega)];rfl
   have hw4:IntKind.i64.wrap (xi*b[k])=xi*b[k]:=aj _ (by omega) (by omega);have hw5:IntKind.i64.wrap (o[i+k]+xi*b[k])=o[i+k]+xi*b[k]:=aj _ (by omega) (by omega);have hw6:IntKind.i64.wrap (o[i+k]+xi*b[k]+c)=o[i+k]+xi*b[k]+c:=aj _ (by omega) (by omega);have hio':i+k+1≤(ay aa o).length:=by rw[eW];omega
   have hget:=qJ o (i+k) hjo;have hfold:=fun d=>ia o (i+k) d hjo
   have hjl:i+k<a.length+b.length:=by omega
   refine qI ?_
   repeat' (intro h<;>simp only[h,go_sem,go_sem_proc,WB,a0,h1,h5,h6,h7,h18,h19,h20,h25,h26,h27,h8,hm,hgb,hdec,hw2,hw3,hw4,hw5,hw6,hjl,hio',hget,hfold,dX,fdivm,aa,WJ,WC,WK,List.cons.injEq,show ¬ ((20:Int)<0) by omega]<;>try refine qS ?_ ?_)
   refine⟨(k+1,(o[i+k]+xi*b[k]+c) / 1048576,o.set (i+k) ((o[i+k]+xi*b[k]+c) % 1048576)),by dsimp only;omega,by dsimp only;omega,by simp [ho],kn hdo _ (by omega),?_,m3,m4,?_,rfl,rfl,rfl⟩
   ·dsimp only
    rw[WG (by omega),WQ,hzr]
   ·dsimp only
    rw[Ca _ _ _ hjo,ba b k hkb,←WT,Ws,zH _ _ _ _ _ _ _ hvi];rw[Wt (xi),Wt (1048576^i),WU]
    have:(1048576:Int)^i*(xi*(1048576^k*b[k]))=1048576^i*1048576^k*(xi*b[k]):=by
     rw[←Wu (xi),Wv (xi) (1048576^k),Wu (1048576^k),←Wu]
    omega
  ·obtain rfl:k=b.length:=by omega
   have hdec:decide ((b.length:Int)<(b.length:Int))=false:=decide_eq_false (by omega);have hjo:i+b.length<o.length:=by omega
   have hz:=zj hzr (WA _) hjo;have hw2:IntKind.i64.wrap ((i:Int)+1)=((i+1:Nat):Int):=by rw[aj _ (by omega) (by omega)];rfl
   have hw3:IntKind.i64.wrap ((i:Int)+(b.length:Int))=((i+b.length:Nat):Int):=by rw[aj _ (by omega) (by omega)];rfl
   have hw4:IntKind.i64.wrap (0+c)=c:=by rw[WV];exact aj _ (by omega) (by omega)
   have hio':i+b.length+1≤(ay aa o).length:=by rw[eW];omega
   have hget:=qJ o (i+b.length) hjo;rw[hz] at hget;have hfold:=fun d=>ia o (i+b.length) d hjo
   have hjl:i+b.length<a.length+b.length:=by omega
   refine qI ?_
   repeat' (intro h<;>simp only[h,go_sem,go_sem_proc,WB,a0,h1,h5,h6,h7,h18,h19,h20,h25,h26,h27,h8,hm,hdec,hw2,hw3,hw4,hjl,hio',hget,hfold,aa,WJ,WC]<;>try refine qS ?_ ?_)
   refine⟨(i+1,o.set (i+b.length) c),by dsimp only;omega,by dsimp only;omega,by simp [ho],kn hdo _ ⟨hc0,hc1⟩,?_,?_,rfl,rfl⟩
   ·dsimp only
    have:=uL (d:=c) hzr hjo
    rwa [show i+b.length+1=i+1+b.length by omega] at this
   ·dsimp only
    rw[Ca _ _ _ hjo,hz,hts];rw[WL (WA _),hvy] at hvi;rw[WW,hvi,WX,Wu]
 ·obtain rfl:i=a.length:=by omega
  have hdec:decide ((a.length:Int)<(a.length:Int))=false:=decide_eq_false (by omega);rw[WL (WA _),hvx] at hvi;have hG:=rb o 161017 0 mem hm (by omega);rw[ho] at hG;have hO:=uo hm hdo (n:=x*y) (by rw[hvi];rfl);refine qI ?_
  repeat' (intro h<;>simp only[h,go_sem,go_sem_proc,WB,a0,h1,h5,h18,h19,h20,hm,hdec,hG,hO,WC]<;>try refine qS ?_ ?_)
noncomputable def yV:List Data→Option PRes:=FF (α:=Nat × Int) (fun (x,d)=>([digs x,.int .i64 d]:List Data)) (fun (x,d)=>aG ((dg x).length≤100000∧0<d∧d<1048576) (.same (.tup [digs (x / d.toNat),.int .i64 (x % d.toNat:Nat)])))
theorem AY:∀ a b:Nat × Int,(fun (x,d)=>([digs x,.int .i64 d]:List Data)) a=(fun (x,d)=>([digs x,.int .i64 d]:List Data)) b→a=b:=by
  rintro⟨x1,d1⟩ ⟨x2,d2⟩ h;simp only[List.cons.injEq,digs,Data.sl.injEq,Data.int.injEq] at h;exact Wy (eR (af ai _ _ h.1)) h.2.1.2
@[go_sem] theorem uy (x:Nat) (d:Int) (hc:(dg x).length≤100000∧0<d∧d<1048576):yV [digs x,.int .i64 d]=some (.same (.tup [digs (x / d.toNat),.int .i64 (x % d.toNat:Nat)])):=(aV AY (x,d)).trans (an hc _)
theorem MU (T:Tab) (a0:T cr=yA nb jZ) (x:Nat) (d:Int) (hc:(dg x).length≤100000∧0<d∧d<1048576) :
  wp T mf_big_short.body (bG mf_big_short.res (.same (.tup [digs (x / d.toNat),.int .i64 (x % d.toNat:Nat)]))) ⟨ax [.dat (digs x),.dat (.int .i64 d)],emp⟩:=by
 refine ap ?_;simp only[mf_big_short];obtain⟨hx,hd0,hd1⟩:=hc;have hdx:=eB x;have hvx:=f7 x;generalize ha:dg x=a at *;have hb1:8*a.length≤140737488355328:=by omega
 have hb2:a.length≤maxLen:=jh _ (by omega);have hdn:(d=0)=False:=by simp;omega
 simp only[go_sem,go_sem_proc,WB,a0,digs,ha,hb1,hb2,mb,WC]
 refine ae [0,1,6] [] (fun ((n,r,o):Nat × Int × List Int) tm mem=>n≤a.length∧o.length=a.length∧isD o∧0≤r∧r<d∧vl (a.drop n)=d*vl (o.drop n)+r∧tm 8 = .dat (.int .i64 ((n:Nat)-1))∧tm 7 = .dat (.int .i64 r)∧mem 176011=some (0,ay aa o))
  (fun (n,_)=>n) (a.length,0,WO a.length 0) (by
   refine⟨WA _,by simp,fun d hd=>by rw[WS] at hd;omega,by omega,by omega,by simp [vl],?_,?_,?_⟩
   ·simp only[aH,reduceIte];rw[aj _ (by omega) (by omega)]
   ·rfl
   ·rfl) ?_
 intro vs ms hvs hms;simp only[go_sem,go_sem_proc,WB,a0,digs,ha,WC] at hvs hms;subst hvs hms;rintro⟨n,r,o⟩ tm mem hk-⟨hn,ho,hdo,hr0,hr1,hv,h8,h7,hm⟩;simp only[go_sem,go_sem_proc,WB,a0,List.cons.injEq] at hk;obtain⟨h0,h1,h6⟩:=hk;rcases n with _ | n
 ·have hq:vl o=(x / d.toNat:Nat)∧r=(x % d.toNat:Nat):=by
   rw[WY,WY,hvx] at hv;have e:(d.toNat:Int)=d:=by omega
   constructor
   ·rw[WZ,e,hv,W0,W1 _ _ (by omega),W2 hr0 hr1];omega
   ·rw[W3,e,hv,W0,W4,W5 hr0 hr1]
  have hE:=oG o (by omega);rw[iP hdo,hq.1] at hE;have hlo:MV.ref 176011 0 1 0 a.length=MV.ref 176011 0 1 0 o.length:=by rw[ho]
  rw[hlo] at h6;refine qI ?_
  repeat' (intro h<;>simp only[h,go_sem,go_sem_proc,WB,a0,h0,h1,h6,h7,h8,hm,hE,bO bc,W6,W7,show ¬ ((0:Int)-1≥0) by omega,decide_false,W8]<;>try refine qS ?_ ?_)
  all_goals rw[hq.2]
 ·have hga:a[n]?=some a[n]:=WI (by omega)
  have han:=dO hdx n (by omega);have hw:((n+1:Nat):Int)-1=(n:Int):=by omega
  have hno:n<o.length:=by omega
  have hw2:IntKind.i64.wrap (r*2^min (W9 20) 64)=r*1048576:=by
   rw[show min (W9 20) 64=20 by decide]
   exact aj _ (by omega) (by omega)
  have hor:bits .or .i64 (r*1048576) a[n]=r*1048576+a[n]:=xS r a[n] hr0 (by omega) han;have hq0:0≤(r*1048576+a[n]) / d:=Xa (by omega) (by omega)
  have hq1:(r*1048576+a[n]) / d<1048576:=Xb hd0 (by
   have:(r+1)*1048576≤d*1048576:=Xc (by omega) (by omega);rw[Wv 1048576 d];omega)
  have htd:(r*1048576+a[n]).tdiv d=(r*1048576+a[n]) / d:=Xd (by omega);have htm:(r*1048576+a[n]).tmod d=(r*1048576+a[n]) % d:=Xe (by omega);have hw3:IntKind.i64.wrap ((r*1048576+a[n]) / d)=(r*1048576+a[n]) / d:=aj _ (by omega) (by omega);have hio':n+1≤(ay aa o).length:=by rw[eW];omega
  have hfold:=fun d=>ia o n d hno
  have hnl:n<a.length:=by omega
  have hw4:IntKind.i64.wrap ((n:Int)-1)=(n:Int)-1:=aj _ (by omega) (by omega);refine qI ?_
  repeat' (intro h<;>simp only[h,go_sem,go_sem_proc,WB,a0,h0,h1,h6,h7,h8,hm,hw,hga,hw2,hor,htd,htm,hw3,hw4,hdn,hnl,hio',hfold,show (n:Int)≥0 by omega,decide_true,aa,WJ,WC,WK,List.cons.injEq,show ¬ ((20:Int)<0) by omega]<;>try refine qS ?_ ?_)
  refine⟨(n,(r*1048576+a[n]) % d,o.set n ((r*1048576+a[n]) / d)),by dsimp only;omega,by dsimp only;omega,by simp [ho],kn hdo n ⟨hq0,hq1⟩,Xf _ (by omega),Xg _ hd0,?_,rfl,rfl,rfl⟩
  dsimp only;rw[WF (by omega:n<a.length),WF (by simpa using hno:n<(o.set n ((r*1048576+a[n]) / d)).length),gN,gN]
  simp only[WH];rw[WG (by omega),hv];have:=Ww (r*1048576+a[n]) d;rw[Wt,Wt,Xh d 1048576];omega
def pad:Nat→Nat→List Int
 | 0,_=>[]
 | n+1,x=>((x % 1048576:Nat):Int)::pad n (x / 1048576)
theorem L7 (n x:Nat):(pad n x).length=n:=by
 induction n generalizing x with
 | zero=>rfl
 | succ n ih=>simp [pad,ih]
theorem Mf (n x:Nat):isD (pad n x):=by
 induction n generalizing x with
 | zero=>intro d hd;cases hd
 | succ n ih =>
  unfold pad;rw[isD_cons];exact⟨by omega,ih _⟩
theorem Kl {l:List Int} (h:isD l):l=pad l.length (vl l).toNat:=by
 induction l with
 | nil=>rfl
 | cons d r ih =>
  rw[isD_cons] at h;have h1:=cP h.2;have h2:=ih h.2;simp only[List.length_cons,pad,gN]
  congr 1
  ·omega
  ·rw[show (d+1048576*vl r).toNat / 1048576=(vl r).toNat by omega]
   exact h2
theorem Ok {n x:Nat} (h:x<1048576^n):vl (pad n x)=x:=by
 induction n generalizing x with
 | zero=>simp at h;subst h;rfl
 | succ n ih =>
  unfold pad;rw[gN,ih (by rw[Nat.div_lt_iff_lt_mul (by omega)];rwa [Xi] at h)];omega
theorem n8 {pre u post:List Int} {i:Nat} (h:i<u.length):List.take 1 (List.drop (pre.length+i) (ay aa (pre++u++post)))=[.dat (.int .i64 u[i])]:=by
 rw[qJ _ _ (by simp;omega)]
 congr 3
 simp [List.getElem_append,h]
theorem zE {pre u post:List Int} {i:Nat} (h:i<u.length) (d:Int):List.take (pre.length+i) (ay aa (pre++u++post))++[.dat (.int .i64 d)]++List.drop (pre.length+i+1) (ay aa (pre++u++post))=ay aa (pre++u.set i d++post):=by
 rw[ia _ _ _ (by simp;omega)]
 congr 1
 rw[Xj,List.set_append_right _ _ (by omega),Nat.add_sub_cancel_left,List.set_append_left _ _ h,Xj]
theorem gE (mem:Mem) (k g g':Nat) (a b:List MV):aA (aA mem k g a) k g' b=aA mem k g' b:=by
 funext j
 unfold aA
 split<;>rfl
theorem He {mem:Mem} {k g:Nat} {a:List MV} (h:mem k=some (g,a)):aA mem k g a=mem:=by
 funext j
 unfold aA
 split
 ·rename_i e;rw[e,h]
 ·rfl
structure pV where
 pre:List Int
 u:List Int
 post:List Int
 V:Nat
 q:Int
 k:Key
 g:Nat
def xX (u:List Int) (V:Nat) (q:Int):Int:=if vl u-q*V<0 then vl u-q*V+V else vl u-q*V
def jF (u:List Int) (V:Nat) (q:Int):Int:=if vl u-q*V<0 then q-1 else q
def iE (a:pV):List MV:=ay aa (a.pre++pad a.u.length (xX a.u a.V a.q).toNat++a.post)
def u5 (a:pV) (mem:Mem):Prop:=mem a.k=some (a.g,ay aa (a.pre++a.u++a.post))∧isD a.u∧(dg a.V).length≤a.u.length∧0≤a.q∧a.q<1048576∧0≤vl a.u-a.q*a.V+a.V∧a.pre.length+a.u.length≤100000
noncomputable def nJ:List MV→Mem→Option (MV × Mem):=GG (fun (a:pV) args mem=>args=[.ref a.k a.g 1 a.pre.length a.u.length,.dat (digs a.V),.dat (.int .i64 a.q)]∧u5 a mem)
 (fun a mem=>(.dat (.int .i64 (jF a.u a.V a.q)),aA mem a.k a.g (iE a)))
theorem ve {a b:Nat} (h:digs a=digs b):a=b:=eR (af ai _ _ (by simpa [digs] using h))
theorem Bm (a:pV) (mem:Mem) (h:u5 a mem):nJ [.ref a.k a.g 1 a.pre.length a.u.length,.dat (digs a.V),.dat (.int .i64 a.q)] mem=some (.dat (.int .i64 (jF a.u a.V a.q)),aA mem a.k a.g (iE a)):=by
 unfold nJ;refine M9 (a:=a) ?_ ⟨rfl,h⟩;rintro a b args mem ⟨h1,h2,_⟩ ⟨h3,h4,_⟩;rw[h1] at h3;simp only[List.cons.injEq,MV.ref.injEq,MV.dat.injEq,Data.int.injEq,true_and,and_true] at h3;obtain⟨⟨ek,eg,ep,eu⟩,eV,eq⟩:=h3;have eV':=ve eV;clear eV;obtain⟨pre,u,post,V,q,k,g⟩:=a;obtain⟨pre',u',post',V',q',k',g'⟩:=b;simp only at ek eg ep eu eV' eq h2 h4;subst ek eg eV' eq;rw[h4] at h2;simp only[Option.some.injEq,Prod.mk.injEq,true_and] at h2;have e:=tB bc ai _ _ h2 (by omega);rw[Xj,Xj] at e;obtain⟨e1,e2⟩:=Xk e ep.symm;obtain⟨e3,e4⟩:=Xk e2 eu.symm;subst e1 e3 e4
 rfl
theorem z6 (p vo va vb c a b q:Int) (h:vo=va-q*vb+p*c):vo+p*((a-c-q*b) % 1048576)=va+p*a-q*(vb+p*b)+p*1048576*(-((a-c-q*b) / 1048576)):=by
 have h1:=Ww (a-c-q*b) 1048576
 have h2:p*((a-c-q*b) % 1048576)+p*1048576*((a-c-q*b) / 1048576)=p*(a-c-q*b):=by
  rw[Wu,←Wt,h1]
 have h3:p*(a-c-q*b)=p*a-p*c-p*(q*b):=by rw[Wx,Wx]
 have h4:q*(vb+p*b)=q*vb+p*(q*b):=by rw[Wt,Xh]
 rw[Int.mul_neg];omega
theorem qL {a c q b:Int} (ha:0≤a∧a<1048576) (hc:0≤c∧c≤1048576) (hq:0≤q∧q<1048576) (hb:0≤b∧b<1048576) :
  0≤q*b∧q*b≤1099509530625∧0 ≤ -((a-c-q*b) / 1048576) ∧ -((a-c-q*b) / 1048576)≤1048576:=by
 have h1:0≤q*b:=WM hq.1 hb.1;have h2:q*b≤1048575*1048575:=WN (by omega) (by omega) hb.1 (by omega);omega
theorem HX (T:Tab) (a:pV) (mem0:Mem) (hc:u5 a mem0) :
  wp T mf_big_settle.body (Gn mf_big_settle.res (.dat (.int .i64 (jF a.u a.V a.q))) (aA mem0 a.k a.g (iE a))) ⟨ax [.ref a.k a.g 1 a.pre.length a.u.length,.dat (digs a.V),.dat (.int .i64 a.q)],mem0⟩:=by
 obtain⟨pre,u,post,V,q,k,g⟩:=a;obtain⟨hm0,hdu,hlv,hq0,hq1,hX,hlen⟩:=hc;simp only at hm0 hdu hlv hq0 hq1 hX hlen ⊢;have hdv:=eB V;have hvv:=f7 V;have hVlt:=dg_len.1 hlv;refine ap ?_;simp only[mf_big_settle];simp only[go_sem,go_sem_proc,WB,digs];generalize hb:dg V=v at *
 refine ae [0,1,2,13] [] (fun ((i,c,w):Nat × Int × List Int) tm mem=>i≤u.length∧w.length=u.length∧isD w∧w.drop i=u.drop i∧(0≤c∧c≤1048576)∧vl (w.take i)=vl (u.take i)-q*vl (v.take i)+1048576^i*c∧tm 14 = .dat (.int .i64 (i:Nat))∧tm 7 = .dat (.int .i64 c)∧mem=aA mem0 k g (ay aa (pre++w++post)))
  (fun (i,_)=>u.length-i) (0,0,u) (by refine⟨WD _,rfl,hdu,rfl,by omega,by simp [vl],rfl,rfl,(He hm0).symm⟩) ?_
 intro vs ms hvs hms;simp only[go_sem,go_sem_proc,WB] at hvs hms;subst hvs hms;rintro⟨i,c,w⟩ tm _ hk-⟨hi,hw,hdw,hdr,hc,hvi,h14,h7,rfl⟩;simp only[go_sem,go_sem_proc,WB,List.cons.injEq] at hk;obtain⟨h0,h1,h2,h13⟩:=hk;rcases WE (i<u.length) with hlt | hge
 ·have hiw:i<w.length:=by omega
  have hwu:w[i]=u[i]:=by
   have h1:=WF hiw;rw[hdr,WF hlt] at h1;exact (List.cons.inj h1).1.symm
  have hwd:w.drop (i+1)=u.drop (i+1):=by
   have h1:=WF hiw;rw[hdr,WF hlt] at h1;exact (List.cons.inj h1).2.symm
  have hget:=n8 (pre:=pre) (post:=post) hiw;rw[hwu] at hget;have hui:=dO hdu i hlt;have hts:=ba u i hlt;generalize u[i]=ui at *;have hw2:IntKind.i64.wrap ((i:Int)+1)=((i+1:Nat):Int):=by rw[aj _ (by omega) (by omega)];rfl
  have hw3:IntKind.i64.wrap (ui-c)=ui-c:=aj _ (by omega) (by omega);have hio':pre.length+i+1≤(ay aa (pre++w++post)).length:=by rw[eW];simp;omega
  have hfold:=fun d=>zE (pre:=pre) (post:=post) hiw d
  have hdec2:decide ((i:Int)<(u.length:Int))=true:=decide_eq_true (by omega)
  have fin:∀ bi:Int,0≤bi→bi<1048576→vl (v.take (i+1))=vl (v.take i)+1048576^i*bi →
    ∃ i':Nat × Int × List Int,u.length-i'.1<u.length-i∧i'.1≤u.length∧i'.2.2.length=u.length∧isD i'.2.2∧i'.2.2.drop i'.1=u.drop i'.1∧(0≤i'.2.1∧i'.2.1≤1048576)∧vl (i'.2.2.take i'.1)=vl (u.take i'.1)-q*vl (v.take i'.1)+1048576^i'.1*i'.2.1 ∧
     MV.dat (Data.int .i64 ((i+1:Nat):Int))=MV.dat (Data.int .i64 (i'.1:Int))∧MV.dat (Data.int .i64 (-((ui-c-q*bi) / 1048576)))=MV.dat (Data.int .i64 i'.2.1)∧aA mem0 k g (ay aa (pre++w.set i ((ui-c-q*bi) % 1048576)++post))=aA mem0 k g (ay aa (pre++i'.2.2++post)):=by
   intro bi hb0 hb1 hvb;obtain⟨m1,m2,m3,m4⟩:=qL hui hc ⟨hq0,hq1⟩ ⟨hb0,hb1⟩;refine⟨(i+1,-((ui-c-q*bi) / 1048576),w.set i ((ui-c-q*bi) % 1048576)),by dsimp only;omega,by dsimp only;omega,by simp [hw],kn hdw i (by omega),?_,⟨m3,m4⟩,?_,rfl,rfl,rfl⟩
   ·dsimp only
    rw[WG (by omega),hwd]
   ·dsimp only
    rw[ba _ _ (by simpa using hiw),kO,hts,hvb,Ws];simp only[WH];exact z6 _ _ _ _ _ _ _ _ hvi
  rcases WE (i<v.length) with hlb' | hgb'
  ·have hgb:v[i]?=some v[i]:=WI hlb'
   have hbi:=dO hdv i hlb';have htb:=ba v i hlb';generalize v[i]=bi at *;obtain⟨m1,m2,m3,m4⟩:=qL hui hc ⟨hq0,hq1⟩ hbi;have hw4:IntKind.i64.wrap (q*bi)=q*bi:=aj _ (by omega) (by omega);have hw5:IntKind.i64.wrap (ui-c-q*bi)=ui-c-q*bi:=aj _ (by omega) (by omega);have hw6:IntKind.i64.wrap (0-(ui-c-q*bi) / 1048576) = -((ui-c-q*bi) / 1048576):=by rw[aj _ (by omega) (by omega)];omega
   have hdec:decide ((i:Int)<(v.length:Int))=true:=decide_eq_true (by omega);simp only[go_sem,go_sem_proc,WB,h0,h1,h2,h13,h14,h7,hgb,hw2,hw3,hw4,hw5,hw6,hdec,hdec2,hlt,hio',hget,hfold,gE,dX,fdivm,aa,WJ,WC,WK,List.cons.injEq,show ¬ ((20:Int)<0) by omega]
   repeat' (first|refine qS ?_ ?_|fail)<;>intro h<;>simp only[h,go_sem,go_sem_proc,WB,h0,h1,h2,h13,h14,h7,hgb,hw2,hw3,hw4,hw5,hw6,hdec,hdec2,hlt,hio',hget,hfold,gE,dX,fdivm,aa,WJ,WC,WK,List.cons.injEq,show ¬ ((20:Int)<0) by omega]
   exact fin bi hbi.1 hbi.2 htb
  ·have hdec:decide ((i:Int)<(v.length:Int))=false:=decide_eq_false (by omega)
   have hw6:IntKind.i64.wrap (0-(ui-c) / 1048576) = -((ui-c) / 1048576):=by rw[aj _ (by omega) (by omega)];omega
   simp only[go_sem,go_sem_proc,WB,h0,h1,h2,h13,h14,h7,hw2,hw3,hw6,hdec,hdec2,hlt,hio',hget,hfold,gE,dX,fdivm,aa,WJ,WC,WK,List.cons.injEq,show ¬ ((20:Int)<0) by omega]
   repeat' (first|refine qS ?_ ?_|fail)<;>intro h<;>simp only[h,go_sem,go_sem_proc,WB,h0,h1,h2,h13,h14,h7,hw2,hw3,hw6,hdec,hdec2,hlt,hio',hget,hfold,gE,dX,fdivm,aa,WJ,WC,WK,List.cons.injEq,show ¬ ((20:Int)<0) by omega]
   have:=fin 0 (by omega) (by omega) (by rw[WL (by omega),WL (by omega)];simp);simp only[Xl,WW] at this;exact this
 ·obtain rfl:i=u.length:=by omega
  have hdec2:decide ((u.length:Int)<(u.length:Int))=false:=decide_eq_false (by omega);rw[WL (by omega),WL (by omega),WL (by omega),hvv] at hvi;have hwlt:=qn hdw;have hwnn:=cP hdw;rw[hw] at hwlt
  have hpV:(V:Int)<1048576^u.length:=by
   have h:=Int.ofNat_lt.2 hVlt;rw[Xm] at h;exact h
  by_cases hc0:c=0
  ·subst hc0
   have hXX:vl u-q*V=vl w:=by omega
   have e1:jF u V q=q:=by unfold jF;rw[if_neg (by omega)]
   have e2:iE ⟨pre,u,post,V,q,k,g⟩=ay aa (pre++w++post):=by
    unfold iE xX;simp only;rw[if_neg (by omega),hXX,←hw,←Kl hdw]
   simp only[go_sem,go_sem_proc,WB,h0,h1,h2,h13,h14,h7,hdec2,e1,e2,beq_self_eq_true]
   repeat' (first|refine qS ?_ ?_|fail)<;>intro h<;>simp only[h,go_sem,go_sem_proc,WB,h0,h1,h2,h13,h14,h7,hdec2,e1,e2,beq_self_eq_true]
  ·have hcf:(c==0)=false:=by simpa using hc0
   have hcp:(1048576:Int)^u.length≤1048576^u.length*c:=by
    have:(1048576:Int)^u.length*1≤1048576^u.length*c:=Xo (by omega) (by omega);omega
   have hneg:vl u-q*V<0:=by omega
   have hwq:IntKind.i64.wrap (q-1)=q-1:=aj _ (by omega) (by omega);simp only[go_sem,go_sem_proc,WB,h0,h1,h2,h13,h14,h7,hdec2,hcf]
   refine ae [0,1,2,48] [] (fun ((i,d,z):Nat × Int × List Int) tm mem=>i≤u.length∧z.length=u.length∧isD z∧z.drop i=w.drop i∧(0≤d∧d≤1)∧vl (z.take i)+1048576^i*d=vl (w.take i)+vl (v.take i)∧tm 49 = .dat (.int .i64 (i:Nat))∧tm 10 = .dat (.int .i64 d)∧mem=aA mem0 k g (ay aa (pre++z++post)))
    (fun (i,_)=>u.length-i) (0,0,w) (by refine⟨WD _,hw,hdw,rfl,by omega,by simp [vl],rfl,rfl,rfl⟩) ?_
   intro vs ms hvs hms;simp only[go_sem,go_sem_proc,WB,h0,h1,h2] at hvs hms;subst hvs hms;rintro⟨i,d,z⟩ tm _ hk-⟨hi,hz,hdz,hdr,hd,hvz,h49,h10,rfl⟩;simp only[go_sem,go_sem_proc,WB,List.cons.injEq] at hk;obtain⟨h0,h1,h2,h48⟩:=hk;rcases WE (i<u.length) with hlt | hge
   ·have hiz:i<z.length:=by omega
    have hiw:i<w.length:=by omega
    have hzw:z[i]=w[i]:=by
     have h1:=WF hiz;rw[hdr,WF hiw] at h1;exact (List.cons.inj h1).1.symm
    have hzd:z.drop (i+1)=w.drop (i+1):=by
     have h1:=WF hiz;rw[hdr,WF hiw] at h1;exact (List.cons.inj h1).2.symm
    have hget:=n8 (pre:=pre) (post:=post) hiz;rw[hzw] at hget;have hwi:=dO hdw i hiw;have hts:=ba w i hiw;generalize w[i]=wi at *;have hw2:IntKind.i64.wrap ((i:Int)+1)=((i+1:Nat):Int):=by rw[aj _ (by omega) (by omega)];rfl
    have hw3:IntKind.i64.wrap (d+wi)=d+wi:=aj _ (by omega) (by omega);have hio':pre.length+i+1≤(ay aa (pre++z++post)).length:=by rw[eW];simp;omega
    have hfold:=fun d=>zE (pre:=pre) (post:=post) hiz d
    have hdec2:decide ((i:Int)<(u.length:Int))=true:=decide_eq_true (by omega)
    have fin:∀ bi:Int,0≤bi→bi<1048576→vl (v.take (i+1))=vl (v.take i)+1048576^i*bi →
      ∃ i':Nat × Int × List Int,u.length-i'.1<u.length-i∧i'.1≤u.length∧i'.2.2.length=u.length∧isD i'.2.2∧i'.2.2.drop i'.1=w.drop i'.1∧(0≤i'.2.1∧i'.2.1≤1)∧vl (i'.2.2.take i'.1)+1048576^i'.1*i'.2.1=vl (w.take i'.1)+vl (v.take i'.1) ∧
       MV.dat (Data.int .i64 ((i+1:Nat):Int))=MV.dat (Data.int .i64 (i'.1:Int))∧MV.dat (Data.int .i64 ((d+wi+bi) / 1048576))=MV.dat (Data.int .i64 i'.2.1)∧aA mem0 k g (ay aa (pre++z.set i ((d+wi+bi) % 1048576)++post))=aA mem0 k g (ay aa (pre++i'.2.2++post)):=by
     intro bi hb0 hb1 hvb;refine⟨(i+1,(d+wi+bi) / 1048576,z.set i ((d+wi+bi) % 1048576)),by dsimp only;omega,by dsimp only;omega,by simp [hz],kn hdz i (by omega),?_,by dsimp only;omega,?_,rfl,rfl,rfl⟩
     ·dsimp only
      rw[WG (by omega),hzd]
     ·dsimp only
      rw[ba _ _ (by simpa using hiz),kO,hts,hvb,Ws];simp only[WH];exact zw _ _ _ _ _ _ _ hvz
    rcases WE (i<v.length) with hlb' | hgb'
    ·have hgb:v[i]?=some v[i]:=WI hlb'
     have hbi:=dO hdv i hlb';have htb:=ba v i hlb';generalize v[i]=bi at *;have hw4:IntKind.i64.wrap (d+wi+bi)=d+wi+bi:=aj _ (by omega) (by omega);have hdec:decide ((i:Int)<(v.length:Int))=true:=decide_eq_true (by omega);simp only[go_sem,go_sem_proc,WB,h0,h1,h2,h48,h49,h10,hgb,hw2,hw3,hw4,hdec,hdec2,hlt,hio',hget,hfold,gE,dX,fdivm,aa,WJ,WC,WK,List.cons.injEq,show ¬ ((20:Int)<0) by omega]
     repeat' (first|refine qS ?_ ?_|fail)<;>intro h<;>simp only[h,go_sem,go_sem_proc,WB,h0,h1,h2,h48,h49,h10,hgb,hw2,hw3,hw4,hdec,hdec2,hlt,hio',hget,hfold,gE,dX,fdivm,aa,WJ,WC,WK,List.cons.injEq,show ¬ ((20:Int)<0) by omega]
     exact fin bi hbi.1 hbi.2 htb
    ·have hdec:decide ((i:Int)<(v.length:Int))=false:=decide_eq_false (by omega)
     simp only[go_sem,go_sem_proc,WB,h0,h1,h2,h48,h49,h10,hw2,hw3,hdec,hdec2,hlt,hio',hget,hfold,gE,dX,fdivm,aa,WJ,WC,WK,List.cons.injEq,show ¬ ((20:Int)<0) by omega]
     repeat' (first|refine qS ?_ ?_|fail)<;>intro h<;>simp only[h,go_sem,go_sem_proc,WB,h0,h1,h2,h48,h49,h10,hw2,hw3,hdec,hdec2,hlt,hio',hget,hfold,gE,dX,fdivm,aa,WJ,WC,WK,List.cons.injEq,show ¬ ((20:Int)<0) by omega]
     have:=fin 0 (by omega) (by omega) (by rw[WL (by omega),WL (by omega)];simp);simp only[Xp] at this;exact this
   ·obtain rfl:i=u.length:=by omega
    have hdec2:decide ((u.length:Int)<(u.length:Int))=false:=decide_eq_false (by omega);rw[WL (by omega),WL (by omega),WL (by omega),hvv] at hvz;have hzlt:=qn hdz;have hznn:=cP hdz;rw[hz] at hzlt
    have hXX:vl u-q*V+V=vl z:=by
     have e:vl u-q*V+V-vl z=1048576^u.length*(d-c):=by rw[Wx];omega
     generalize (1048576:Int)^u.length=p at *;rcases Xq (d-c) 0 with h | h | h
     ·have:p*(d-c)≤p*(-1):=Xo (by omega) (by omega)
      omega
     ·rw[h,Xl] at e;omega
     ·have:p*1≤p*(d-c):=Xo (by omega) (by omega)
      omega
    have e1:jF u V q=q-1:=by unfold jF;rw[if_pos hneg]
    have e2:iE ⟨pre,u,post,V,q,k,g⟩=ay aa (pre++z++post):=by
     unfold iE xX;simp only;rw[if_pos hneg,hXX,←hz,←Kl hdz]
    simp only[go_sem,go_sem_proc,WB,h0,h1,h2,h48,h49,h10,hdec2,e1,e2,hwq]
    repeat' (first|refine qS ?_ ?_|fail)<;>intro h<;>simp only[h,go_sem,go_sem_proc,WB,h0,h1,h2,h48,h49,h10,hdec2,e1,e2,hwq]
set_option maxHeartbeats 2000000
theorem Ch {T V P Vl Tl v1 v2 top u2 q r:Int} (hV:V=(v1*1048576+v2)*P+Vl) (hT:T=(top*1048576+u2)*P+Tl) (hP:0<P) (hVl:0≤Vl) (hTl:Tl<P) (hq0:0≤q) (hV0:0≤V)
  (hTV:T<1048576*V) (hqr:q*v1+r=top) (hc:q≥1048576∨q*v2>r*1048576+u2):T<q*V:=by
 rcases hc with h | h
 ·have:=Xc h hV0
  omega
 ·have h1:(top*1048576+u2+1)*P≤(q*(v1*1048576+v2))*P:=by
   refine Xc ?_ (by omega);rw[Wt,←Wu];have:q*v1*1048576=(top-r)*1048576:=by rw[←hqr];congr 1;omega
   omega
  have h2:q*V=(q*(v1*1048576+v2))*P+q*Vl:=by rw[hV,Wt,←Wu]
  have h3:0≤q*Vl:=WM hq0 hVl;rw[WX _ 1,Xr] at h1;omega
theorem uW {T V P Vl Tl v1 v2 top u2 q r:Int} (hV:V=(v1*1048576+v2)*P+Vl) (hT:T=(top*1048576+u2)*P+Tl) (hP:0<P) (hVl:0≤Vl∧Vl<P) (hTl:0≤Tl) (hq0:0≤q) (hq1:q<1048576) (hv1:524288≤v1) (hv2:0≤v2∧v2<1048576) (hu2:0≤u2)
  (hqr:q*v1+r=top) (hc:r≥1048576∨q*v2≤r*1048576+u2):0≤T-q*V+V:=by
 have h2:q*V=(q*(v1*1048576+v2))*P+q*Vl:=by rw[hV,Wt,←Wu]
 have h3:q*Vl≤q*P:=Xo (by omega) hq0;have h4:q*P≤1048576*P:=Xc (by omega) (by omega);have h5:1048576*P≤(v1*1048576+v2)*P:=Xc (by omega) (by omega);have e:q*v1*1048576=(top-r)*1048576:=by rw[←hqr];congr 1;omega
 rcases hc with h | h
 ·have h6:q*v2+q≤1048576*1048576:=by
   have h7:q*(v2+1)≤1048576*1048576:=WN (by omega) (by omega) (by omega) (by omega);rw[Wt,Int.mul_one] at h7;exact h7
  have h8:(q*(v1*1048576+v2)+q)*P≤(top*1048576+u2)*P:=by
   refine Xc ?_ (by omega);rw[Wt,←Wu];omega
  rw[WX _ q] at h8;omega
 ·have h8:(q*(v1*1048576+v2))*P≤(top*1048576+u2)*P:=by
   refine Xc ?_ (by omega);rw[Wt,←Wu];omega
  omega
theorem zB {T V q:Int} (hV:0<V) (h1:T<(q+1)*V) (h2:0≤T-q*V+V):(if T-q*V<0 then q-1 else q)=T / V∧(if T-q*V<0 then T-q*V+V else T-q*V)=T % V:=by
 have h3:(q+1)*V=q*V+V:=by rw[WX,Xr]
 have h4:(q-1)*V=q*V-V:=by rw[Xs,Xr]
 have key:∀ d r:Int,T=d*V+r→0≤r→r<V→d=T / V∧r=T % V:=by
  intro d r h h0 h5
  constructor
  ·rw[h,W0,Int.add_mul_ediv_right _ _ (by omega),W2 h0 h5];omega
  ·rw[h,W0,Int.add_mul_emod_self_right,W5 h0 h5]
 split
 ·exact key (q-1) _ (by omega) (by omega) (by omega)
 ·exact key q _ (by omega) (by omega) (by omega)
theorem DY {v:List Int} {N:Nat} (h:v.length=N+2):vl v=(v[N+1]*1048576+v[N])*1048576^N+vl (v.take N):=by
 have e:v=v.take (N+1+1):=by rw[WL (by omega)]
 conv=>lhs;rw[e]
 rw[ba v (N+1) (by omega),ba v N (by omega),Ws,WX,Wv (v[N]),Xt (v[N+1]),Wv (v[N+1])];have:(1048576:Int)^N*1048576*v[N+1]=1048576^N*v[N+1]*1048576:=by rw[Xt]
 omega
theorem MM {v:List Int} {N:Nat} (h:v.length=N+3):vl v=((v[N+2]*1048576+v[N+1])*1048576+v[N])*1048576^N+vl (v.take N):=by
 have e:v=v.take (N+1+1+1):=by rw[WL (by omega)]
 conv=>lhs;rw[e]
 rw[ba v (N+1+1) (by omega),ba v (N+1) (by omega),ba v N (by omega)];simp only[Ws];generalize (1048576:Int)^N=p;rw[WX,WX,WX,Xt (v[N+2]*1048576),Xt (v[N+2]),Wv (v[N+2]),Xt (v[N+1]),Wv (v[N+1]),Wv (v[N])];have h1:p*1048576*v[N+1]=p*v[N+1]*1048576:=by rw[Xt]
 have h2:p*1048576*1048576*v[N+1+1]=p*v[N+2]*1048576*1048576:=by rw[Xt,Xt p]
 omega
theorem window {u:List Int} {i n:Nat} {V:Int} (hd:isD u) (hl:i+n+1≤u.length) (hR:vl (u.drop (i+1))<V) (hV:V<1048576^n) :
  ∃ pre win post,u=pre++win++post∧pre.length=i∧win.length=n+1∧isD pre∧isD win∧isD post∧vl post=0∧∃ w0,win[0]?=some w0∧u.take (i+1)=pre++[w0]∧vl win=w0+1048576*vl (u.drop (i+1))∧0≤vl (u.drop (i+1))∧0≤w0∧w0<1048576:=by
 have e:u=u.take i++(u.drop i).take (n+1)++u.drop (i+n+1):=by
  rw[Xj,WT,←Xu,Xv,Xv]
 have hd3:=e ▸ hd;rw[isD_append,isD_append] at hd3;obtain⟨⟨d1,d2⟩,d3⟩:=hd3;have hlt:i<u.length:=by omega
 have hdr:=WF hlt;have hwl:((u.drop i).take (n+1)).length=n+1:=by simp;omega
 have hR':vl (u.drop (i+1))=vl ((u.drop (i+1)).take n)+1048576^n*vl (u.drop (i+n+1)):=by
  have:=i6 (u.drop (i+1)) n;rw[Xw,Xx (by omega),Xu] at this;rw[this]
  congr 3
  rw[show i+1+n=i+n+1 by omega]
 have hp:=cP d3;have ht:0≤vl ((u.drop (i+1)).take n):=cP (fun x hx=>hd x (Xy (List.mem_of_mem_take hx)))
 have hp0:vl (u.drop (i+n+1))=0:=by
  rcases WE (0<vl (u.drop (i+n+1))) with h | h
  ·have:(1048576:Int)^n*1≤1048576^n*vl (u.drop (i+n+1)):=Xo (by omega) (Int.pow_nonneg (by omega))
   omega
  ·omega
 refine⟨_,_,_,e,by simp;omega,hwl,d1,d2,d3,hp0,u[i],?_,?_,?_,?_,(dO hd i hlt).1,(dO hd i hlt).2⟩
 ·rw[List.getElem?_take_of_lt (by omega),WP]
  simp [hlt]
 ·rw[List.take_add_one,WI hlt];rfl
 ·rw[hdr,List.take_succ_cons,gN,hR',hp0]
  simp
 ·rw[hR',hp0];simpa using ht
theorem SM (l:List Int) (h:l.length≤1000000):lg 157054 0 1 l.length 8 1 [.dat (.int .i64 0)] (some (0,((l.map aa).flatten.map MV.dat)))=some (.ref 157054 1 1 0 (l.length+1),some (157054,1,ay aa (l++[0]))) :=
 dk bc fO 157054 0 8 l 0 rfl (by omega) (by omega)
noncomputable def ES:List Data→Option PRes:=FF (α:=Nat × Nat) (fun (x,y)=>([digs x,digs y]:List Data)) (fun (x,y)=>aG ((dg x).length≤1000∧(dg y).length≤1000∧0<y) (.same (.tup [digs (x / y),digs (x % y)])))
theorem Gf:∀ a b:Nat × Nat,(fun (x,y)=>([digs x,digs y]:List Data)) a=(fun (x,y)=>([digs x,digs y]:List Data)) b→a=b:=by
  rintro⟨x1,y1⟩ ⟨x2,y2⟩ h;simp only[List.cons.injEq] at h;exact Wy (ve h.1) (ve h.2.1)
@[go_sem] theorem BF (x:Nat) (y:Nat) (hc:(dg x).length≤1000∧(dg y).length≤1000∧0<y):ES [digs x,digs y]=some (.same (.tup [digs (x / y),digs (x % y)])):=(aV Gf (x,y)).trans (an hc _)
theorem Qu (T:Tab) (aJ:T dZ=mkE mz) (aS:T bt=mkE lk) (cO:T kl=mkE yV) (a0:T cr=yA nb jZ) (eA:T jt=mkE EG) (ce:T lE=mkG nJ) (x:Nat) (y:Nat) (hc:(dg x).length≤1000∧(dg y).length≤1000∧0<y) :
  wp T mf_big_div.body (bG mf_big_div.res (.same (.tup [digs (x / y),digs (x % y)]))) ⟨ax [.dat (digs x),.dat (digs y)],emp⟩:=by
 refine ap ?_;simp only[mf_big_div];obtain⟨hx,hy,hy0⟩:=hc;have hcc:(dg x).length≤1000000∧(dg y).length≤1000000:=by omega
 have hce:=mN x y hcc;have hxl:(dg x).length≤1000000:=by omega
 by_cases hxy:x<y
 ·have hcmp:fW x y = -1:=by unfold fW;rw[if_pos (by simpa using hxy)]
  have hcl:=tj (dg x) hxl;rw[hcmp] at hce
  change lk [digs x]=_ at hcl
  simp only[go_sem,go_sem_proc,WB,aJ,aS,cO,a0,eA,ce,hce,hcl,show ((-1:Int)<0) by omega,decide_true]
  repeat' (first|refine qS ?_ ?_|fail)<;>intro h<;>simp only[h,go_sem,go_sem_proc,WB,aJ,aS,cO,a0,eA,ce,hce,hcl,show ((-1:Int)<0) by omega,decide_true]
  rw[Nat.div_eq_of_lt hxy,Wr hxy]
  try rfl
 ·have hcmp:decide (fW x y<0)=false:=by
   unfold fW;rw[if_neg (by simp;omega)]
   split<;>rfl
  have hny:dg y≠[]:=by rw[Ne,ni];omega
  by_cases h1:y<1048576
  ·have hdy:=pA hy0 h1
   have hsh:=uy x y ⟨by omega,by omega,by omega⟩
   have htr:=oG [((x % y:Nat):Int)] (by simp);have hlt:x % y<y:=Nat.mod_lt _ hy0;rw[W8] at hsh
   have htd:cm [((x % y:Nat):Int)]=dg (x % y):=by
    generalize x % y=r at hlt ⊢;rw[iP (by intro d hd;rw[Xz] at hd;omega)];simp only[vl]
    congr 1
   rw[htd] at htr;have hdig:digs y = .sl [[.int .i64 y]]:=by unfold digs;rw[hdy];rfl
   change nb [.sl [[.int .i64 _]]]=_ at htr
   rw[hdig] at hce;simp only[go_sem,go_sem_proc,WB,aJ,aS,cO,a0,eA,ce,hdig,hce,hcmp,hsh,htr,show (((1:Nat):Int)==1)=true from rfl]
   repeat' (first|refine qS ?_ ?_|fail)<;>intro h<;>simp only[h,go_sem,go_sem_proc,WB,aJ,aS,cO,a0,eA,ce,hdig,hce,hcmp,hsh,htr,show (((1:Nat):Int)==1)=true from rfl]
   try rfl
  ·obtain⟨N,hN⟩:∃ N,(dg y).length=N+2:=by
    have:=mt (dg_len (n:=y) (k:=1)).1 (by simpa using h1);exact⟨(dg y).length-2,by omega⟩
   have hdy:=eB y;have hly:(((dg y).length:Int)==1)=false:=by simp;omega
   have hwl:IntKind.i64.wrap (((dg y).length:Int)-1)=((N+1:Nat):Int):=by rw[aj _ (by omega) (by omega)];omega
   have hgt:(dg y)[N+1]?=some (dg y)[N+1]:=WI (by omega);have htop:=dO hdy (N+1) (by omega)
   have htop0:(dg y)[N+1]≠0:=by
    intro h;have:=D3 y;rw[List.getLast?_eq_getElem?,hN] at this;exact this (by rw[show N+2-1=N+1 by omega,hgt,h])
   have hyv:=DY hN;rw[f7] at hyv;have hylow:=qn (iW hdy N);have hylow0:=cP (iW hdy N);have hylow1:=dO hdy N (by omega);rw[XA,Xx (by omega)] at hylow;generalize (dg y)[N+1]=b1 at *;generalize (dg y)[N]=b0 at *;generalize vl ((dg y).take N)=bl at *;have hgt':((dg y).map aa)[N+1]?=some [.int .i64 b1]:=by rw[WK,hgt];rfl
   simp only[go_sem,go_sem_proc,WB,aJ,aS,cO,a0,eA,ce,digs,hce,hcmp,hly,WC];have hce':=hce;unfold digs at hce';simp only[go_sem,go_sem_proc,WB,aJ,aS,cO,a0,eA,ce,hce',hcmp,hly,WC];refine ae [0,1] [157054,157075] (fun (κ:Nat) tm mem=>b1*2^κ<1048576∧tm 8 = .dat (.int .i64 (2^κ))) (fun κ=>20-κ) 0 (by refine⟨by omega,rfl⟩) ?_;intro vs ms hvs hms;simp only[go_sem,go_sem_proc,WB,aJ,aS,cO,a0,eA,ce,WC] at hvs hms;subst hvs hms;rintro κ tm mem hk hm ⟨hbs,h8⟩;simp only[go_sem,go_sem_proc,WB,aJ,aS,cO,a0,eA,ce,List.cons.injEq] at hk hm;obtain⟨h0,h1'⟩:=hk;obtain⟨hm1,hm2⟩:=hm;have hspos:(0:Int)<2^κ:=XB (by omega)
   have hsB:(2:Int)^κ≤b1*2^κ:=by
    have:1*(2:Int)^κ≤b1*2^κ:=Xc (by omega) (by omega);omega
   have hκ:κ<20:=by
    rcases Nat.lt_or_ge κ 20 with h | h
    ·exact h
    ·have:(2:Int)^20≤2^κ:=by
      have:=XC (n:=2) (by omega) h;have h':=Int.ofNat_le.2 this
      rwa [Xm,Xm] at h'
     omega
   have hws:IntKind.i64.wrap (b1*2^κ)=b1*2^κ:=aj _ (by omega) (by omega);have hws2:IntKind.i64.wrap (2^κ*2)=2^κ*2:=aj _ (by omega) (by omega);rcases WE (b1*2^κ<524288) with hlt | hge
   ·simp only[go_sem,go_sem_proc,WB,aJ,aS,cO,a0,eA,ce,h0,h1',h8,hwl,hgt',hws,hws2,hlt,hm1,hm2,decide_true,WJ,WC]
    repeat' (first|refine qS ?_ ?_|fail)<;>intro h<;>simp only[h,go_sem,go_sem_proc,WB,aJ,aS,cO,a0,eA,ce,h0,h1',h8,hwl,hgt',hws,hws2,hlt,hm1,hm2,decide_true,WJ,WC]
    exact⟨κ+1,by omega,by rw[Ws,←Wu];omega,by rw[Ws]⟩
   ·-- the numbers, shifted
    have hb1s:(b1+1)*2^κ≤1048576:=by
     have e:(1048576:Int)=2^(20-κ)*2^κ:=by rw[←WU,show 20-κ+κ=20 by omega];rfl
     have h1:b1<2^(20-κ):=by
      rcases WE (b1<2^(20-κ)) with h | h
      ·exact h
      ·have:(2:Int)^(20-κ)*2^κ≤b1*2^κ:=Xc (by omega) (by omega)
       omega
     rw[e];exact Xc (by omega) (by omega)
    generalize (2:Int)^κ=s at *;obtain⟨S,rfl⟩:∃ S:Nat,s=S:=⟨s.toNat,by omega⟩
    have hP:(0:Int)<1048576^N:=XB (by omega);have hSpos:0<S:=by omega
    have hVlt:y*S<1048576^(N+2):=by
     have h1:((y*S:Nat):Int)<1048576^(N+2):=by
      rw[XD,hyv,Ws,Ws];generalize (1048576:Int)^N=p at *
      have e1:((b1*1048576+b0)*p+bl)*S≤((b1+1)*1048576*p)*S:=by
       refine Xc ?_ (by omega);have:(b1*1048576+b0+1)*p≤((b1+1)*1048576)*p:=Xc (by omega) (by omega);rw[WX _ 1] at this;omega
      have e1':((b1*1048576+b0)*p+bl)*S<((b1+1)*1048576*p)*S:=by
       refine Int.mul_lt_mul_of_pos_right ?_ (by omega);have:(b1*1048576+b0+1)*p≤((b1+1)*1048576)*p:=Xc (by omega) (by omega);rw[WX _ 1] at this;omega
      have e2:((b1+1)*1048576*p)*S=((b1+1)*S)*(p*1048576):=by
       rw[Wu (b1+1),Wu,Wv (1048576*p),←Wu,Wv 1048576 p]
      have e3:((b1+1)*S)*(p*1048576)≤1048576*(p*1048576):=Xc hb1s (by omega);omega
     have h2:((1048576^(N+2):Nat):Int)=1048576^(N+2):=by rw[Xm];rfl
     omega
    have hVge:524288*(1048576^N*1048576)≤((y*S:Nat):Int):=by
     rw[XD,hyv];generalize (1048576:Int)^N=p at *
     have e1:(b1*1048576)*p*S≤((b1*1048576+b0)*p+bl)*S:=by
      refine Xc ?_ (by omega);have:(b1*1048576)*p≤(b1*1048576+b0)*p:=Xc (by omega) (by omega);omega
     have e2:(b1*1048576)*p*S=(b1*S)*(p*1048576):=by
      rw[Wu b1,Wu,Wv (1048576*p),←Wu,Wv 1048576 p]
     have e3:524288*(p*1048576)≤(b1*S)*(p*1048576):=Xc (by omega) (by omega);omega
    have hnV:(dg (y*S)).length=N+2:=by
     have h1:=dg_len.2 hVlt
     have h2:=mt (dg_len (n:=y*S) (k:=N+1)).1 (by
      have h2:((1048576^(N+1):Nat):Int)=1048576^N*1048576:=by rw[Xm,Ws];rfl
      omega)
     omega
    have hxl2:1*x≤x*S:=by rw[Nat.mul_comm];exact XE x hSpos
    have hXlen:(dg x).length≤(dg (x*S)).length:=by
     rw[dg_len];have:=dg_len.1 (WA (dg (x*S)).length);omega
    have hXV:y*S≤x*S:=Nat.mul_le_mul_right S (by omega)
    have hXlen2:N+2≤(dg (x*S)).length:=by
     rw[←hnV,dg_len];have:=dg_len.1 (WA (dg (x*S)).length);omega
    have hXlen3:(dg (x*S)).length≤1001:=by
     have:∀ k,(dg x).length≤k→(dg (x*S)).length≤k+1:=by
      intro k hk;rw[dg_len];have h1:=dg_len.1 hk;rw[Xi];exact Nat.lt_of_lt_of_le (Nat.mul_lt_mul_of_pos_right h1 hSpos) (XE _ (by omega))
     exact this 1000 hx
    have hmx:=tT x S ⟨by omega,by rw[pA hSpos (by omega)];simp⟩
    have hmy:=tT y S ⟨by omega,by rw[pA hSpos (by omega)];simp⟩
    have hdS:digs S = .sl [[.int .i64 (S:Int)]]:=by unfold digs;rw[pA hSpos (by omega)];rfl
    rw[hdS] at hmx hmy;simp only[digs] at hmx hmy;have hap:=SM (dg (x*S)) (by omega);have hlne:((((dg (x*S)).length+1:Nat):Int)==((dg x).length:Int))=false:=by simp;omega
    have hvV:=f7 (y*S);have hdV:=eB (y*S);have hvX:=f7 (x*S);have hdX:=eB (x*S);have hVdef:digs (y*S) = .sl ((dg (y*S)).map aa):=rfl;generalize hvd:dg (y*S)=v at *;generalize hud:dg (x*S)=u0 at *;have hwq:IntKind.i64.wrap (((u0.length+1:Nat):Int)-(v.length:Int))=((u0.length-N-1:Nat):Int):=by rw[aj _ (by omega) (by omega)];omega
    have hq1:8*(u0.length-N-1)≤140737488355328:=by omega
    have hq2:u0.length-N-1≤maxLen:=jh _ (by omega);have hge':decide (b1*(S:Int)<524288)=false:=decide_eq_false hge;simp only[go_sem,go_sem_proc,WB,aJ,aS,cO,a0,eA,ce,h0,h1',h8,hm1,hm2,hwl,hgt',hws,hge',hmx,hmy,hap,hlne,hwq,hq1,hq2,mb,WJ,WC];have hM:u0.length-N-1+(N+2)=u0.length+1:=by omega
    generalize hMd:u0.length-N-1=M at *;have hL:u0.length=M+N+1:=by omega
    have hV2:=DY hnV;rw[hvV] at hV2;have hvlow:=qn (iW hdV N);have hvlow0:=cP (iW hdV N);rw[XA,Xx (by omega)] at hvlow;have hg1:v[N+1]?=some v[N+1]:=WI (by omega);have hg0:v[N]?=some v[N]:=WI (by omega);have hr1:=dO hdV (N+1) (by omega);have hr0:=dO hdV N (by omega);generalize v[N+1]=v1 at *;generalize v[N]=v0 at *;generalize vl (v.take N)=vlow at *
    have hv1:524288≤v1:=by
     generalize (1048576:Int)^N=p at *;rcases WE (524288≤v1) with h | h
     ·exact h
     ·have h2:(v1*1048576+v0+1)*p≤(524288*1048576)*p:=Xc (by omega) (by omega)
      rw[WX _ 1,Xr] at h2;omega
    have hVn:((y*S:Nat):Int)<1048576^(N+2):=by
     have h2:((1048576^(N+2):Nat):Int)=1048576^(N+2):=by rw[Xm];rfl
     omega
    have hVpos:0<((y*S:Nat):Int):=by
     have:0<1048576^N*(1048576:Int):=Int.mul_pos hP (by omega);omega
    have hUtop:vl ((u0++[0]).drop M)<((y*S:Nat):Int):=by
     have e:(u0++[0]).drop M=u0.drop M++[0]:=by rw[List.drop_append_of_le_length (by omega)]
     rw[e,jn];have h1:=qn (fun d hd=>hdX d (Xy hd):isD (u0.drop M));rw[Xw,show u0.length-M=N+1 by omega,Ws] at h1
     simp only[vl];omega
    have hXsum:((x*S:Nat):Int)=vl ((u0++[0]).take M)+1048576^M*vl ((u0++[0]).drop M):=by
     have:=i6 (u0++[0]) M;rw[jn,hvX,Xx (by simp;omega)] at this
     simpa [vl] using this
    generalize hVd:y*S=Vn at *;generalize hXd:x*S=Xn at *
    refine ae [8,9,10,11,12] [] (fun ((j,u,qs):Nat × List Int × List Int) tm mem=>j≤M∧u.length=u0.length+1∧isD u∧qs.length=M∧isD qs∧vl (u.drop j)<Vn∧(Xn:Int)=vl (u.take j)+1048576^j*(Vn*vl (qs.drop j)+vl (u.drop j)) ∧
      tm 13 = .dat (.int .i64 ((j:Nat)-1))∧mem 157054=some (1,ay aa u)∧mem 157075=some (0,ay aa qs)) (fun (j,_)=>j) (M,u0++[0],WO M 0)
     (by
      refine⟨WA _,by simp,isD_append.2 ⟨hdX,by intro d hd;rw[Xz] at hd;omega⟩,by simp,fun d hd=>by rw[WS] at hd;omega,hUtop,?_,?_,rfl,rfl⟩
      ·rw[List.drop_of_length_le (by simp)]
       simp only[vl,Xl,WV];exact hXsum
      ·simp only[aH,reduceIte];rw[aj _ (by omega) (by omega)]) ?_
    intro vs ms hvs hms;simp only[go_sem,go_sem_proc,WB,aJ,aS,cO,a0,eA,ce,h0,h1',h8] at hvs hms;subst hvs hms;rintro⟨j,u,qs⟩ tm mem hk-⟨hj,hul,hdu,hql,hdq,hR,hsum,h13,hmu,hmq⟩;simp only[go_sem,go_sem_proc,WB,aJ,aS,cO,a0,eA,ce,List.cons.injEq] at hk;obtain⟨h8,h9,h10,h11,h12⟩:=hk;rcases j with _ | j
    ·rw[WY,WY] at hsum
     rw[WY] at hR;simp only[List.take_zero,vl,Int.pow_zero,Xr,WV] at hsum;have hqn:=cP hdq;have hun:=cP hdu
     have hdivmod:vl qs=((x / y:Nat):Int)∧vl u=((x % y*S:Nat):Int):=by
      have h1:Xn / Vn=x / y:=by rw[←hXd,←hVd];exact Nat.mul_div_mul_right x y hSpos
      have h2:Xn % Vn=x % y*S:=by rw[←hXd,←hVd];exact Nat.mul_mod_mul_right S x y
      have h3:((Xn / Vn:Nat):Int)=vl qs:=by rw[WZ,hsum,W0,W1 _ _ (by omega),W2 hun hR];omega
      have h4:((Xn % Vn:Nat):Int)=vl u:=by rw[W3,hsum,W0,W4,W5 hun hR]
      rw[h1] at h3;rw[h2] at h4;exact⟨h3.symm,h4.symm⟩
     have htu:=oG u (by omega);rw[iP hdu,hdivmod.2,W8] at htu;have htq:=oG qs (by omega);rw[iP hdq,hdivmod.1,W8] at htq
     have hlen:(dg (x % y*S)).length≤100000:=by
      have:(dg (x % y*S)).length≤u.length:=by
       have:=Aq u;rw[iP hdu,hdivmod.2,W8] at this;exact this
      omega
     have hsh:=uy (x % y*S) S ⟨hlen,by omega,by omega⟩
     rw[W8,Nat.mul_div_cancel _ hSpos] at hsh;simp only[digs] at hsh;have e9:MV.ref 157054 1 1 0 (u0.length+1)=MV.ref 157054 1 1 0 u.length:=by rw[hul]
     have e12:MV.ref 157075 0 1 0 M=MV.ref 157075 0 1 0 qs.length:=by rw[hql]
     rw[e9] at h9;rw[e12] at h12;simp only[go_sem,go_sem_proc,WB,aJ,aS,cO,a0,eA,ce,h8,h9,h10,h11,h12,h13,hmu,hmq,htu,htq,hsh,bO bc,digs,W6,W7,show ¬ ((0:Int)-1≥0) by omega,decide_false]
     repeat' (first|refine qS ?_ ?_|fail)<;>intro h<;>simp only[h,go_sem,go_sem_proc,WB,aJ,aS,cO,a0,eA,ce,h8,h9,h10,h11,h12,h13,hmu,hmq,htu,htq,hsh,bO bc,digs,W6,W7,show ¬ ((0:Int)-1≥0) by omega,decide_false]
    ·obtain⟨pre,win,post,e,hpre,hwl',hdp,hdw,hdpo,hpo0,w0,hw0,htk,hwv,hR0,hw00,hw01⟩:=window (i:=j) (n:=N+2) hdu (by omega) hR hVn
     have hM1:j<M:=by omega
     rw[htk,jn,hpre] at hsum;subst e;subst hpre;rw[hnV] at h11;have hw13:((pre.length+1:Nat):Int)-1=(pre.length:Int):=by omega
     have hx1:IntKind.i64.wrap ((pre.length:Int)+((N+2:Nat):Int))=((pre.length+(N+2):Nat):Int):=by rw[aj _ (by omega) (by omega)];omega
     have hx3:IntKind.i64.wrap (((pre.length+(N+2):Nat):Int)-1)=((pre.length+(N+1):Nat):Int):=by rw[aj _ (by omega) (by omega)];omega
     have hx4:IntKind.i64.wrap (((N+2:Nat):Int)-1)=((N+1:Nat):Int):=by rw[aj _ (by omega) (by omega)];omega
     have hx5:IntKind.i64.wrap (((N+2:Nat):Int)-2)=(N:Int):=by rw[aj _ (by omega) (by omega)];omega
     have hx6:IntKind.i64.wrap (((pre.length+(N+2):Nat):Int)-2)=((pre.length+N:Nat):Int):=by rw[aj _ (by omega) (by omega)];omega
     have hl1:pre.length+(N+2)<u0.length+1:=by omega
     have hl2:pre.length+(N+1)<u0.length+1:=by omega
     have hl3:pre.length+N<u0.length+1:=by omega
     have hr1':pre.length+(N+2)+1≤(ay aa (pre++win++post)).length:=by rw[eW,hul];omega
     have hr2':pre.length+(N+1)+1≤(ay aa (pre++win++post)).length:=by rw[eW,hul];omega
     have hr3':pre.length+N+1≤(ay aa (pre++win++post)).length:=by rw[eW,hul];omega
     have hp2:=n8 (pre:=pre) (post:=post) (show N+2<win.length by omega);have hp1:=n8 (pre:=pre) (post:=post) (show N+1<win.length by omega);have hp0:=n8 (pre:=pre) (post:=post) (show N<win.length by omega);have hT:=MM (N:=N) (by omega:win.length=N+3);have hTl:=qn (iW hdw N);have hTl0:=cP (iW hdw N);rw[XA,Xx (by omega)] at hTl;have hd2:=dO hdw (N+2) (by omega);have hd1:=dO hdw (N+1) (by omega);have hd0:=dO hdw N (by omega);generalize win[N+2]=t2 at *;generalize win[N+1]=t1 at *;generalize win[N]=t0 at *;generalize vl (win.take N)=Tl at *;have hsh2:IntKind.i64.wrap (t2*2^min (W9 20) 64)=t2*1048576:=by rw[show min (W9 20) 64=20 by decide];exact aj _ (by omega) (by omega)
     have hor2:bits .or .i64 (t2*1048576) t1=t2*1048576+t1:=xS t2 t1 hd2.1 (by omega) hd1;have hv1n:(v1=0)=False:=by simp;omega
     generalize hTop:t2*1048576+t1=top at *;have htop0':0≤top∧top<1099511627776:=by omega
     have htd:top.tdiv v1=top / v1:=Xd (by omega);have htm:top.tmod v1=top % v1:=Xe (by omega);have hq0:0≤top / v1:=Xa (by omega) (by omega);have hq1:top / v1≤top:=Int.ediv_le_self _ (by omega);have hwq1:IntKind.i64.wrap (top / v1)=top / v1:=aj _ (by omega) (by omega);have hgv1:(v.map aa)[N+1]?=some [.int .i64 v1]:=by rw[WK,hg1];rfl
     have hgv0:(v.map aa)[N]?=some [.int .i64 v0]:=by rw[WK,hg0];rfl
     have hTV:vl win<1048576*Vn:=by omega
     have hinit:vl win<(top / v1+1)*Vn:=by
      have e1:top+1≤(top / v1+1)*v1:=by
       have h1:=Ww top v1;have h2:=Xg top (show 0<v1 by omega);rw[WX,Xr,Wv (top / v1)];omega
      have e2:(top+1)*1048576*1048576^N≤(top / v1+1)*v1*1048576*1048576^N:=Xc (Xc e1 (by omega)) (by omega)
      have e3:(top / v1+1)*v1*1048576*1048576^N≤(top / v1+1)*Vn:=by
       rw[Wu,Wu];refine Xo ?_ (by omega);rw[hV2,←Wu];have:v1*1048576*1048576^N≤(v1*1048576+v0)*1048576^N:=Xc (by omega) (by omega);omega
      have e4:(top*1048576+t0+1)*1048576^N≤(top+1)*1048576*1048576^N:=Xc (by omega) (by omega);rw[WX _ 1,Xr] at e4;omega
     simp only[go_sem,go_sem_proc,WB,aJ,aS,cO,a0,eA,ce,h8,h9,h10,h11,h12,h13,hmu,hmq,hw13,hx1,hx3,hx4,hl1,hl2,hr1',hr2',hp2,hp1,hsh2,hor2,hv1n,htd,htm,hwq1,hgv1,show (pre.length:Int)≥0 by omega,decide_true,WJ,WC,show ¬ ((20:Int)<0) by omega]
     have hexit:∀ (mem:Mem),mem 157054=some (1,ay aa (pre++win++post))→∀ q:Int,0≤q→q<1048576→vl win<(q+1)*Vn→0≤vl win-q*Vn+Vn →
       nJ [.ref 157054 1 1 pre.length (N+3),.dat (.sl (v.map aa)),.dat (.int .i64 q)] mem=some (.dat (.int .i64 (vl win / Vn)),aA mem 157054 1 (ay aa (pre++pad (N+3) (vl win % Vn).toNat++post))):=by
      intro mem hmu q hq0 hqB hup hdn;have hdig:=zB hVpos hup hdn;have hG:=Bm ⟨pre,win,post,Vn,q,157054,1⟩ mem ⟨hmu,hdw,by show (dg Vn).length≤win.length;rw[hvd];omega,hq0,hqB,hdn,by show pre.length+win.length≤100000;omega⟩
      simp only[jF,iE,xX] at hG;rw[hdig.1,hdig.2,hwl',hVdef] at hG;exact hG
     have hQ0:0≤vl win / Vn:=Xa (cP hdw) (by omega);have hQ1:vl win / Vn<1048576:=Xb hVpos hTV;have hr0'':=Xf (vl win) (show (Vn:Int)≠0 by omega);have hr1'':=Xg (vl win) hVpos
     have hpad:vl (pad (N+3) (vl win % Vn).toNat)=vl win % Vn:=by
      rw[Ok]
      ·omega
      ·have h2:((1048576^(N+2):Nat):Int)=1048576^(N+2):=by rw[Xm];rfl
       have h3:1048576^(N+2)≤1048576^(N+3):=XC (by omega) (by omega);omega
     have hfin:∃ i':Nat × List Int × List Int,i'.1<pre.length+1∧i'.1≤M∧i'.2.1.length=u0.length+1∧isD i'.2.1∧i'.2.2.length=M∧isD i'.2.2∧vl (i'.2.1.drop i'.1)<Vn∧(Xn:Int)=vl (i'.2.1.take i'.1)+1048576^i'.1*(Vn*vl (i'.2.2.drop i'.1)+vl (i'.2.1.drop i'.1)) ∧
       MV.dat (Data.int .i64 ((pre.length:Int)-1))=MV.dat (Data.int .i64 ((i'.1:Int)-1))∧some (1,ay aa (pre++pad (N+3) (vl win % Vn).toNat++post))=some (1,ay aa i'.2.1)∧some (0,ay aa (qs.set pre.length (vl win / Vn)))=some (0,ay aa i'.2.2):=by
      have hql':qs.length=M:=hql;have hql:pre.length<qs.length:=by omega
      have hdrop:(pre++pad (N+3) (vl win % Vn).toNat++post).drop pre.length=pad (N+3) (vl win % Vn).toNat++post:=by rw[Xj,List.drop_left]
      have htake:(pre++pad (N+3) (vl win % Vn).toNat++post).take pre.length=pre:=by rw[Xj,List.take_left]
      have hvd':vl (pad (N+3) (vl win % Vn).toNat++post)=vl win % Vn:=by rw[jn,hpo0,hpad];omega
      refine⟨(pre.length,pre++pad (N+3) (vl win % Vn).toNat++post,qs.set pre.length (vl win / Vn)),by dsimp only;omega,by dsimp only;omega,?_,isD_append.2 ⟨isD_append.2 ⟨hdp,Mf _ _⟩,hdpo⟩,by rw[WQ];exact hql',kn hdq _ ⟨hQ0,hQ1⟩,?_,?_,rfl,rfl,rfl⟩
      ·rw[←hul];simp [L7,hwl']
      ·dsimp only;rw[hdrop,hvd'];exact hr1''
      ·dsimp only
       rw[hdrop,hvd',htake,WF (by simpa using hql),gN];simp only[WH];rw[WG (by omega)];have h1:=Ww (vl win) Vn;have h2:(Vn:Int)*(vl win / Vn+1048576*vl (qs.drop (pre.length+1)))=Vn*(vl win / Vn)+1048576*(Vn*vl (qs.drop (pre.length+1))):=by rw[Wt,Xh]
       rw[h2,hsum,Ws,Wu];simp only[vl,Xl,Xp];rw[Int.add_assoc,←Wt]
       congr 2
       rw[Wt];omega
     have hsub:pre.length+(N+2)+1-pre.length=N+3:=by omega
     have hx2:IntKind.i64.wrap (((pre.length+(N+2):Nat):Int)+1)=((pre.length+(N+2)+1:Nat):Int):=by rw[aj _ (by omega) (by omega)];rfl
     have hsl1:pre.length≤pre.length+(N+2)+1∧pre.length+(N+2)+1≤u0.length+1:=by omega
     have hqlt:pre.length<M:=hM1;have hfoldq:=fun d=>ia qs pre.length d (by omega)
     have hql2:pre.length+1≤(ay aa qs).length:=by rw[eW];omega
     have hwi:IntKind.i64.wrap ((pre.length:Int)-1)=(pre.length:Int)-1:=aj _ (by omega) (by omega)
     refine ae [8,9,10,11,12,13] [157054,157075] (fun ((q,r):Int × Int) tm mem=>0≤q∧0≤r∧q*v1+r=top∧vl win<(q+1)*Vn∧tm 15 = .dat (.int .i64 q)∧tm 16 = .dat (.int .i64 r)) (fun (q,_)=>q.toNat) (top / v1,top % v1)
      (by
       refine⟨hq0,Xf _ (by omega),?_,hinit,rfl,rfl⟩;have:=Ww top v1;rw[Wv (top / v1)];omega) ?_
     intro vs ms hvs hms;simp only[go_sem,go_sem_proc,WB,aJ,aS,cO,a0,eA,ce,h8,h9,h10,h11,h12,h13,hmu,hmq,hw13] at hvs hms;subst hvs hms;rintro⟨q,r⟩ tm mem' hk hm ⟨hq0',hr0',hqr,hup,h15,h16⟩;simp only[go_sem,go_sem_proc,WB,aJ,aS,cO,a0,eA,ce,List.cons.injEq] at hk hm;obtain⟨k8,k9,k10,k11,k12,k13⟩:=hk;obtain⟨mu,mq⟩:=hm;have hqv:0≤q*v1:=WM hq0' (by omega);have hqb:q*524288≤q*v1:=Xo hv1 hq0';have hqv0:0≤q*v0:=WM hq0' hr0.1;have hqv1:q*v0≤q*1048576:=Xo (by omega) hq0';have hw20:IntKind.i64.wrap (q*v0)=q*v0:=aj _ (by omega) (by omega);have hw21:IntKind.i64.wrap (q-1)=q-1:=aj _ (by omega) (by omega);have hw22:IntKind.i64.wrap (r+v1)=r+v1:=aj _ (by omega) (by omega);have hw23:IntKind.i64.wrap (r*2^min (W9 20) 64)=r*1048576:=by rw[show min (W9 20) 64=20 by decide];exact aj _ (by omega) (by omega)
     have hor3:bits .or .i64 (r*1048576) t0=r*1048576+t0:=xS r t0 hr0' (by omega) hd0
     have hround:(q≥1048576∨q*v0>r*1048576+t0)→∃ i':Int × Int,i'.1.toNat<q.toNat∧0≤i'.1∧0≤i'.2∧i'.1*v1+i'.2=top∧vl win<(i'.1+1)*Vn∧MV.dat (Data.int .i64 (q-1))=MV.dat (Data.int .i64 i'.1)∧MV.dat (Data.int .i64 (r+v1))=MV.dat (Data.int .i64 i'.2):=by
      intro hc;have h1:=Ch hV2 hT hP hvlow0 hTl hq0' (by omega) hTV hqr hc
      have hqp:0<q:=by
       rcases WE (0<q) with h | h
       ·exact h
       ·obtain rfl:q=0:=by omega
        have:=cP hdw;omega
      exact⟨(q-1,r+v1),by dsimp only;omega,by dsimp only;omega,by dsimp only;omega,by dsimp only;rw[Xs];omega,by dsimp only;rw[Int.sub_add_cancel];exact h1,rfl,rfl⟩
     by_cases hc1:q≥1048576
     ·simp only[go_sem,go_sem_proc,WB,aJ,aS,cO,a0,eA,ce,k8,k9,k10,k11,k12,k13,mu,mq,h15,h16,hc1,hw21,hw22,hx4,hgv1,decide_true,WJ,WC]
      repeat' (first|refine qS ?_ ?_|fail)<;>intro h<;>simp only[h,go_sem,go_sem_proc,WB,aJ,aS,cO,a0,eA,ce,k8,k9,k10,k11,k12,k13,mu,mq,h15,h16,hc1,hw21,hw22,hx4,hgv1,decide_true,WJ,WC]
      exact hround (.inl hc1)
     ·by_cases hc2:r<1048576
      ·by_cases hc3:q*v0>r*1048576+t0
       ·simp only[go_sem,go_sem_proc,WB,aJ,aS,cO,a0,eA,ce,k8,k9,k10,k11,k12,k13,mu,mq,h15,h16,hc1,hc2,hc3,hw20,hw21,hw22,hw23,hor3,hx1,hx4,hx5,hx6,hl3,hr3',hp0,hgv1,hgv0,decide_true,decide_false,WJ,WC,show ¬ ((20:Int)<0) by omega]
        repeat' (first|refine qS ?_ ?_|fail)<;>intro h<;>simp only[h,go_sem,go_sem_proc,WB,aJ,aS,cO,a0,eA,ce,k8,k9,k10,k11,k12,k13,mu,mq,h15,h16,hc1,hc2,hc3,hw20,hw21,hw22,hw23,hor3,hx1,hx4,hx5,hx6,hl3,hr3',hp0,hgv1,hgv0,decide_true,decide_false,WJ,WC,show ¬ ((20:Int)<0) by omega]
        exact hround (.inr hc3)
       ·have hG:=hexit mem' mu q hq0' (by omega) hup (uW hV2 hT hP ⟨hvlow0,hvlow⟩ hTl0 hq0' (by omega) hv1 hr0 hd0.1 hqr (.inr (by omega)))
        simp only[go_sem,go_sem_proc,WB,aJ,aS,cO,a0,eA,ce,k8,k9,k10,k11,k12,k13,mu,mq,h15,h16,hc1,hc2,hc3,hw20,hw23,hor3,hx1,hx2,hx4,hx5,hx6,hl3,hr3',hp0,hgv0,hsub,hsl1,hG,hqlt,hql2,hfoldq,hwi,hnV,decide_true,decide_false,WJ,WC,show ¬ ((20:Int)<0) by omega]
        repeat' (first|refine qS ?_ ?_|fail)<;>intro h<;>simp only[h,go_sem,go_sem_proc,WB,aJ,aS,cO,a0,eA,ce,k8,k9,k10,k11,k12,k13,mu,mq,h15,h16,hc1,hc2,hc3,hw20,hw23,hor3,hx1,hx2,hx4,hx5,hx6,hl3,hr3',hp0,hgv0,hsub,hsl1,hG,hqlt,hql2,hfoldq,hwi,hnV,decide_true,decide_false,WJ,WC,show ¬ ((20:Int)<0) by omega]
        exact hfin
      ·have hG:=hexit mem' mu q hq0' (by omega) hup (uW hV2 hT hP ⟨hvlow0,hvlow⟩ hTl0 hq0' (by omega) hv1 hr0 hd0.1 hqr (.inl (by omega)))
       simp only[go_sem,go_sem_proc,WB,aJ,aS,cO,a0,eA,ce,k8,k9,k10,k11,k12,k13,mu,mq,h15,h16,hc1,hc2,hx1,hx2,hsub,hsl1,hG,hqlt,hql2,hfoldq,hwi,hnV,decide_true,decide_false,WJ,WC]
       repeat' (first|refine qS ?_ ?_|fail)<;>intro h<;>simp only[h,go_sem,go_sem_proc,WB,aJ,aS,cO,a0,eA,ce,k8,k9,k10,k11,k12,k13,mu,mq,h15,h16,hc1,hc2,hx1,hx2,hsub,hsl1,hG,hqlt,hql2,hfoldq,hwi,hnV,decide_true,decide_false,WJ,WC]
       exact hfin
def LIM:Nat:=1048576^60
def aP (z:Int):Raw:=(z.sign,dg z.natAbs)
def gM (a:Raw):Int:=a.1*vl a.2
theorem aQ (z:Int):gM (aP z)=z:=by
 unfold gM aP;rw[f7];exact XF z
theorem nF (d:Int):mE d=true↔0≤d∧d<1048576:=by
 unfold mE;simp;omega
theorem bj (a:Raw):aI a=true↔∃ z:Int,z.natAbs<LIM∧a=aP z:=by
 obtain⟨s,l⟩:=a;unfold aI LIM;rw[XG,List.all_eq_true]
 constructor
 ·rintro⟨h1,h2⟩
  have hd:isD l:=fun d hd=>(nF d).1 (h1 d hd)
  split at h2
  ·rename_i h
   have hl:l=[]:=List.eq_nil_of_length_eq_zero (by simpa using h);subst hl;have hs:s=0:=by simpa using h2
   subst hs;exact⟨0,by simp,rfl⟩
  ·rename_i h
   simp at h2;obtain⟨⟨hs,hlen⟩,hlast⟩:=h2;have hc:=canon hd (by simpa using hlast);have hv:=cP hd
   have hnz:vl l≠0:=by
    intro h0;rw[h0] at hc;rw[hc] at h;simp [f8] at h
   refine⟨s*vl l,?_,?_⟩
   ·have:(s*vl l).natAbs=(vl l).toNat:=by rw[XH];rcases hs with rfl | rfl<;>simp<;>omega
    rw[this,←dg_len,←hc];exact hlen
   ·unfold aP
    have:(s*vl l).natAbs=(vl l).toNat:=by rw[XH];rcases hs with rfl | rfl<;>simp<;>omega
    rw[this,←hc]
    congr 1
    rcases hs with rfl | rfl
    ·rw[Xr,XI (by omega)]
    ·rw[Int.neg_mul,Xr,XJ,XI (by omega)]
 ·rintro⟨z,hz,h⟩
  cases h;refine⟨fun d hd=>(nF d).2 (eB _ d hd),?_⟩
  by_cases h0:z=0
  ·subst h0;rfl
  ·have hn:dg z.natAbs≠[]:=by rw[Ne,ni];omega
   rw[if_neg (by simp;exact hn)];have hl:=dg_len.2 hz;have hla:=D3 z.natAbs;simp only[XG,Bool.or_eq_true,beq_iff_eq,decide_eq_true_eq,bne_iff_ne,ne_eq];refine⟨⟨?_,hl⟩,hla⟩;rcases Xq z 0 with h | h | h
   ·exact .inr (XK h)
   ·exact absurd h h0
   ·exact .inl (XI h)
theorem bJ {z:Int} (h:z.natAbs<LIM):aI (aP z)=true:=(bj _).2 ⟨z,h,rfl⟩
def rh (c:Raw):Raw × Int:=if decide ((c.2.length:Int)>60)=true then ((0,[]),6) else (c,0)
def lj (z:Int):Raw × Int:=if z.natAbs<LIM then (aP z,0) else ((0,[]),6)
def dR (x:Raw × Int):Data:=.tup [.agg (bF x.1),.int .i64 x.2]
theorem J9 (s:Int) (n:Nat):eU s (dg n)=if n=0 then (0,[]) else (s,dg n):=by
 unfold eU;rw[r0]
 by_cases h:n=0
 ·subst h;rfl
 ·have:dg n≠[]:=by rw[Ne,ni];exact h
  rw[if_neg h,if_neg (by simp;exact this)]
theorem cX {s:Int} {n:Nat} {z:Int} (h:z.natAbs=n) (hs:n≠0→s=z.sign):eU s (dg n)=aP z:=by
 rw[J9];subst h
 by_cases h0:z.natAbs=0
 ·obtain rfl:z=0:=by omega
  rfl
 ·rw[if_neg h0,hs h0]
  rfl
theorem iF (z:Int):rh (aP z)=lj z:=by
 unfold rh lj aP LIM;have:=dg_len (n:=z.natAbs) (k:=60)
 by_cases h:z.natAbs<1048576^60
 ·have:=this.2 h
  rw[if_neg (by simp;omega),if_pos h]
 ·have:=mt this.1 h
  rw[if_pos (by simp;omega),if_neg h]
noncomputable def ma:List Data→Option PRes:=FF (α:=Bool × Int × (List Int)) (fun (r,s,l)=>([.bool r,.agg [.int .i64 s,.sl (l.map aa)]]:List Data)) (fun (r,s,l)=>some (.same (dR (if r=true then rh (s,l) else ((0,[]),1)))))
theorem vw:∀ a b:Bool × Int × (List Int),(fun (r,s,l)=>([.bool r,.agg [.int .i64 s,.sl (l.map aa)]]:List Data)) a=(fun (r,s,l)=>([.bool r,.agg [.int .i64 s,.sl (l.map aa)]]:List Data)) b→a=b:=by
  rintro⟨r1,s1,l1⟩ ⟨r2,s2,l2⟩ h;simp only[List.cons.injEq,Data.bool.injEq,Data.agg.injEq,Data.int.injEq,Data.sl.injEq] at h;exact Wy h.1 (Wy h.2.1.1.2 (af ai _ _ h.2.1.2.1))
@[go_sem] theorem gQ (r:Bool) (s:Int) (l:List Int):ma [.bool r,.agg [.int .i64 s,.sl (l.map aa)]]=some (.same (dR (if r=true then rh (s,l) else ((0,[]),1)))):=aV vw (r,s,l)
theorem Fk (T:Tab)  (r:Bool) (s:Int) (l:List Int) :
  wp T mf_big_checked.body (bG mf_big_checked.res (.same (dR (if r=true then rh (s,l) else ((0,[]),1))))) ⟨ax [.dat (.bool r),.dat (.agg [.int .i64 s,.sl (l.map aa)])],emp⟩:=by
 refine ap ?_;simp only[mf_big_checked]
 cases r
 ·refine qI ?_
  repeat' (intro h<;>simp only[h,go_sem,go_sem_proc,WB,WC]<;>try refine qS ?_ ?_)
  rfl
 ·refine qI ?_
  repeat' (intro h<;>simp only[h,go_sem,go_sem_proc,WB,WC]<;>try refine qS ?_ ?_)
  all_goals (simp only[dR,bF,rh];simp only[XL, *,reduceIte,Bool.not_true,Bool.not_false,Bool.or_true,Bool.true_or,Bool.or_false,Bool.false_or,Bool.and_true,Bool.true_and,XM,XN,WB,beq_self_eq_true,bne])
def iO (a:Raw):Raw:=if aI a=true then aP (-gM a) else (0,[])
theorem sd (z:Int):eU (-z.sign) (dg z.natAbs)=aP (-z):=cX (by omega) fun _=>by rw[XJ]
noncomputable def DW:List Data→Option PRes:=FF (α:=Int × (List Int)) (fun (s,l)=>([.agg [.int .i64 s,.sl (l.map aa)]]:List Data)) (fun (s,l)=>aG (l.length≤1000000) (.same (.agg (bF (iO (s,l))))))
theorem Fp:∀ a b:Int × (List Int),(fun (s,l)=>([.agg [.int .i64 s,.sl (l.map aa)]]:List Data)) a=(fun (s,l)=>([.agg [.int .i64 s,.sl (l.map aa)]]:List Data)) b→a=b:=by
  rintro⟨s1,l1⟩ ⟨s2,l2⟩ h;simp only[List.cons.injEq,Data.agg.injEq,Data.int.injEq,Data.sl.injEq] at h;exact Wy h.1.1.2 (af ai _ _ h.1.2.1)
@[go_sem] theorem Q4 (s:Int) (l:List Int) (hc:l.length≤1000000):DW [.agg [.int .i64 s,.sl (l.map aa)]]=some (.same (.agg (bF (iO (s,l))))):=(aV Fp (s,l)).trans (an hc _)
theorem QB (T:Tab) (al:T aY=mkE d8) (aS:T bt=mkE lk) (aK:T bB=mkE jK) (s:Int) (l:List Int) (hc:l.length≤1000000) :
  wp T mf_big_Neg.body (bG mf_big_Neg.res (.same (.agg (bF (iO (s,l)))))) ⟨ax [.dat (.agg [.int .i64 s,.sl (l.map aa)])],emp⟩:=by
 refine ap ?_;simp only[mf_big_Neg]
 by_cases hr:aI (s,l)=true
 ·obtain⟨z,hz,e⟩:=(bj _).1 hr
  have e1:iO (s,l)=aP (-z):=by unfold iO;rw[if_pos hr,e,aQ]
  cases e
  have hw:IntKind.i64.wrap (0-z.sign) = -z.sign:=by
   have:=XO z;rw[aj _ (by omega) (by omega)];omega
  rw[e1];refine qI ?_
  repeat' (intro h<;>simp only[h,go_sem,go_sem_proc,WB,al,aS,aK,hr,hc,hw,sd,bF]<;>try refine qS ?_ ?_)
 ·have hr:aI (s,l)=false:=by simpa using hr
  have e1:iO (s,l)=(0,[]):=by unfold iO;rw[hr];rfl
  rw[e1];refine qI ?_
  repeat' (intro h<;>simp only[h,go_sem,go_sem_proc,WB,al,aS,aK,hr,hc,bF,XL]<;>try refine qS ?_ ?_)
theorem cS (a:Raw):(a.1,a.2)=a:=rfl
def gC (a b:Raw):Raw × Int:=if (aI a&&aI b)=true then lj (gM a*gM b) else ((0,[]),1)
theorem jI {x y:Int} (hx:x.natAbs<LIM) (hy:y.natAbs<LIM):gC (aP x) (aP y)=lj (x*y):=by
 unfold gC;rw[bJ hx,bJ hy,aQ,aQ]
 rfl
theorem fD {z:Int} (h:z.natAbs<LIM):(dg z.natAbs).length≤60:=dg_len.2 h
theorem dY (z:Int):-1≤z.sign∧z.sign≤1:=by
 have:=XO z;omega
noncomputable def wv:List Data→Option PRes:=FF (α:=Int × (List Int) × Int × (List Int)) (fun (s,l,s2,l2)=>([.agg [.int .i64 s,.sl (l.map aa)],.agg [.int .i64 s2,.sl (l2.map aa)]]:List Data)) (fun (s,l,s2,l2)=>aG (l.length≤1000000∧l2.length≤1000000) (.same (dR (gC (s,l) (s2,l2)))))
theorem E7:∀ a b:Int × (List Int) × Int × (List Int),(fun (s,l,s2,l2)=>([.agg [.int .i64 s,.sl (l.map aa)],.agg [.int .i64 s2,.sl (l2.map aa)]]:List Data)) a=(fun (s,l,s2,l2)=>([.agg [.int .i64 s,.sl (l.map aa)],.agg [.int .i64 s2,.sl (l2.map aa)]]:List Data)) b→a=b:=by
  rintro⟨s1,l1,s21,l21⟩ ⟨s2,l2,s22,l22⟩ h;simp only[List.cons.injEq,Data.agg.injEq,Data.int.injEq,Data.sl.injEq] at h;exact Wy h.1.1.2 (Wy (af ai _ _ h.1.2.1) (Wy h.2.1.1.2 (af ai _ _ h.2.1.2.1)))
@[go_sem] theorem R9 (s:Int) (l:List Int) (s2:Int) (l2:List Int) (hc:l.length≤1000000∧l2.length≤1000000):wv [.agg [.int .i64 s,.sl (l.map aa)],.agg [.int .i64 s2,.sl (l2.map aa)]]=some (.same (dR (gC (s,l) (s2,l2)))):=(aV E7 (s,l,s2,l2)).trans (an hc _)
theorem R7 (T:Tab) (al:T aY=mkE d8) (eA:T jt=mkE EG) (aK:T bB=mkE jK) (ck:T co=mkE ma) (s:Int) (l:List Int) (s2:Int) (l2:List Int) (hc:l.length≤1000000∧l2.length≤1000000) :
  wp T mf_big_Mul.body (bG mf_big_Mul.res (.same (dR (gC (s,l) (s2,l2))))) ⟨ax [.dat (.agg [.int .i64 s,.sl (l.map aa)]),.dat (.agg [.int .i64 s2,.sl (l2.map aa)])],emp⟩:=by
 refine ap ?_;simp only[mf_big_Mul];obtain⟨hl1,hl2⟩:=hc
 by_cases hr:aI (s,l)=true
 ·by_cases hr2:aI (s2,l2)=true
  ·obtain⟨x,hx,e⟩:=(bj _).1 hr
   obtain⟨y,hy,e2⟩:=(bj _).1 hr2;have hm:gC (s,l) (s2,l2)=lj (x*y):=by rw[e,e2];exact jI hx hy
   rw[hm];clear hm
   cases e
   cases e2;have h1:=dY x;have h2:=dY y;have hp:x.sign*y.sign=(x*y).sign:=(Int.sign_mul x y).symm;have h3:=dY (x*y);have hw:IntKind.i64.wrap (x.sign*y.sign)=(x*y).sign:=by rw[hp];exact aj _ (by omega) (by omega)
   have hmul:=tT x.natAbs y.natAbs ⟨XP (fD hx) (by omega),XP (fD hy) (by omega)⟩;simp only[digs] at hmul
   have hlen:(dg (x.natAbs*y.natAbs)).length≤1000000:=by
    refine XP ((dg_len (k:=120)).2 ?_) (by omega);have:(1048576^120:Nat)=LIM*LIM:=by unfold LIM;rw[←Nat.pow_add]
    rw[this];exact Nat.mul_lt_mul'' hx hy
   have hs:eU (x*y).sign (dg (x.natAbs*y.natAbs))=aP (x*y):=cX (XH x y) fun _=>rfl
   refine qI ?_
   repeat' (intro h<;>simp only[h,go_sem,go_sem_proc,WB,al,eA,aK,ck,hr,hr2,hl1,hl2,hw,hmul,hlen,hs,iF,bF,dR,cS]<;>try refine qS ?_ ?_)
  ·have hr2:aI (s2,l2)=false:=by simpa using hr2
   have hm:gC (s,l) (s2,l2)=((0,[]),1):=by unfold gC;rw[hr2,XM];rfl
   rw[hm];have hch:=gQ false 0 [];simp only[XL] at hch;refine qI ?_
   repeat' (intro h<;>simp only[h,go_sem,go_sem_proc,WB,al,eA,aK,ck,hr,hr2,hl1,hl2,hch,bF,dR,XL]<;>try refine qS ?_ ?_)
 ·have hr:aI (s,l)=false:=by simpa using hr
  have hm:gC (s,l) (s2,l2)=((0,[]),1):=by unfold gC;rw[hr,XN];rfl
  rw[hm];have hch:=gQ false 0 [];simp only[XL] at hch;refine qI ?_
  repeat' (intro h<;>simp only[h,go_sem,go_sem_proc,WB,al,eA,aK,ck,hr,hl1,hl2,hch,bF,dR,XL]<;>try refine qS ?_ ?_)
def qQ (a b:Raw):Raw × Int:=if (aI a&&aI b)=true then lj (gM a+gM b) else ((0,[]),1)
theorem An {x y:Int} (hx:x.natAbs<LIM) (hy:y.natAbs<LIM):qQ (aP x) (aP y)=lj (x+y):=by
 unfold qQ;rw[bJ hx,bJ hy,aQ,aQ]
 rfl
theorem sJ (a b:Nat):(dg (a-b)).length≤(dg a).length:=by
 rw[dg_len];exact Wz (Nat.sub_le a b) (dg_len.1 (WA _))
noncomputable def IR:List Data→Option PRes:=FF (α:=Int × (List Int) × Int × (List Int)) (fun (s,l,s2,l2)=>([.agg [.int .i64 s,.sl (l.map aa)],.agg [.int .i64 s2,.sl (l2.map aa)]]:List Data)) (fun (s,l,s2,l2)=>aG (l.length≤1000000∧l2.length≤1000000) (.same (dR (qQ (s,l) (s2,l2)))))
theorem Fd:∀ a b:Int × (List Int) × Int × (List Int),(fun (s,l,s2,l2)=>([.agg [.int .i64 s,.sl (l.map aa)],.agg [.int .i64 s2,.sl (l2.map aa)]]:List Data)) a=(fun (s,l,s2,l2)=>([.agg [.int .i64 s,.sl (l.map aa)],.agg [.int .i64 s2,.sl (l2.map aa)]]:List Data)) b→a=b:=by
  rintro⟨s1,l1,s21,l21⟩ ⟨s2,l2,s22,l22⟩ h;simp only[List.cons.injEq,Data.agg.injEq,Data.int.injEq,Data.sl.injEq] at h;exact Wy h.1.1.2 (Wy (af ai _ _ h.1.2.1) (Wy h.2.1.1.2 (af ai _ _ h.2.1.2.1)))
@[go_sem] theorem R8 (s:Int) (l:List Int) (s2:Int) (l2:List Int) (hc:l.length≤1000000∧l2.length≤1000000):IR [.agg [.int .i64 s,.sl (l.map aa)],.agg [.int .i64 s2,.sl (l2.map aa)]]=some (.same (dR (qQ (s,l) (s2,l2)))):=(aV Fd (s,l,s2,l2)).trans (an hc _)
theorem Qy (T:Tab) (al:T aY=mkE d8) (oQ:T lC=mkE Kh) (gd:T kS=mkE ER) (gz:T jw=mkE EA) (aJ:T dZ=mkE mz) (aK:T bB=mkE jK) (ck:T co=mkE ma) (s:Int) (l:List Int) (s2:Int) (l2:List Int) (hc:l.length≤1000000∧l2.length≤1000000) :
  wp T mf_big_Add.body (bG mf_big_Add.res (.same (dR (qQ (s,l) (s2,l2))))) ⟨ax [.dat (.agg [.int .i64 s,.sl (l.map aa)]),.dat (.agg [.int .i64 s2,.sl (l2.map aa)])],emp⟩:=by
 refine ap ?_;simp only[mf_big_Add];obtain⟨hl1,hl2⟩:=hc
 by_cases hr:aI (s,l)=true
 ·by_cases hr2:aI (s2,l2)=true
  ·obtain⟨x,hx,e⟩:=(bj _).1 hr
   obtain⟨y,hy,e2⟩:=(bj _).1 hr2;have hm:qQ (s,l) (s2,l2)=lj (x+y):=by rw[e,e2];exact An hx hy
   rw[hm];clear hm
   cases e
   cases e2;have h1:=dY x;have h2:=dY y;have hlx:=fD hx;have hly:=fD hy;have hsx:=XF x;have hsy:=XF y
   have tx:(x.sign=1∧0<x)∨(x.sign=0∧x=0)∨(x.sign = -1∧x<0):=by
    rcases Xq x 0 with h | h | h
    ·exact .inr (.inr ⟨XK h,h⟩)
    ·exact .inr (.inl ⟨by rw[h];rfl,h⟩)
    ·exact .inl ⟨XI h,h⟩
   have ty:(y.sign=1∧0<y)∨(y.sign=0∧y=0)∨(y.sign = -1∧y<0):=by
    rcases Xq y 0 with h | h | h
    ·exact .inr (.inr ⟨XK h,h⟩)
    ·exact .inr (.inl ⟨by rw[h];rfl,h⟩)
    ·exact .inl ⟨XI h,h⟩
   have hadd:=Bo x.natAbs y.natAbs ⟨by omega,by omega⟩
   simp only[digs] at hadd
   have hlen:(dg (x.natAbs+y.natAbs)).length≤1000000:=by
    refine XP ((dg_len (k:=61)).2 ?_) (by omega);have:(1048576^61:Nat)=LIM*1048576:=by unfold LIM;rw[←Xi]
    omega
   have hor:=JR [x.sign,y.sign] (by simp);simp only[List.map_cons,XL,aa] at hor;have hcm:=mN x.natAbs y.natAbs ⟨by omega,by omega⟩
   simp only[digs] at hcm
   by_cases hp:x.sign*y.sign≥0
   ·have hw:IntKind.i64.wrap (x.sign*y.sign)=x.sign*y.sign:=by
     rcases tx with ⟨e,_⟩ | ⟨e,_⟩ | ⟨e,_⟩<;>rw[e]<;>exact aj _ (by omega) (by omega)
    have hs:eU (orI [x.sign,y.sign]) (dg (x.natAbs+y.natAbs))=aP (x+y):=by
     refine cX ?_ ?_
     ·rcases tx with ⟨e,_⟩ | ⟨e,_⟩ | ⟨e,_⟩<;>rcases ty with ⟨e',_⟩ | ⟨e',_⟩ | ⟨e',_⟩<;>rw[e,e'] at hp<;>omega
     ·intro hn
      rcases tx with ⟨e,_⟩ | ⟨e,_⟩ | ⟨e,_⟩<;>rcases ty with ⟨e',_⟩ | ⟨e',_⟩ | ⟨e',_⟩<;>rw[e,e'] at hp ⊢
      ·exact (XI (by omega)).symm
      ·exact (XI (by omega)).symm
      ·omega
      ·exact (XI (by omega)).symm
      ·omega
      ·exact (XK (by omega)).symm
      ·omega
      ·exact (XK (by omega)).symm
      ·exact (XK (by omega)).symm
    simp only[go_sem,go_sem_proc,WB,al,oQ,gd,gz,aJ,aK,ck,hr,hr2,hl1,hl2,hw,hp,decide_true,hor,hadd,hlen,hs,iF,bF,dR,cS]
    repeat' (first|refine qS ?_ ?_|fail)<;>intro h<;>simp only[h,go_sem,go_sem_proc,WB,al,oQ,gd,gz,aJ,aK,ck,hr,hr2,hl1,hl2,hw,hp,decide_true,hor,hadd,hlen,hs,iF,bF,dR,cS]
   ·have hw:IntKind.i64.wrap (x.sign*y.sign)=x.sign*y.sign:=by
     rcases tx with ⟨e,_⟩ | ⟨e,_⟩ | ⟨e,_⟩<;>rw[e]<;>exact aj _ (by omega) (by omega)
    by_cases hlt:x.natAbs<y.natAbs
    ·have hcr:decide (fW x.natAbs y.natAbs<0)=true:=by unfold fW;rw[if_pos (by simp;omega)];rfl
     have hsub:=uS y.natAbs x.natAbs ⟨by omega,by omega⟩
     simp only[digs] at hsub;have hlen2:(dg (y.natAbs-x.natAbs)).length≤1000000:=XP (sJ _ _) (by omega)
     have hs:eU y.sign (dg (y.natAbs-x.natAbs))=aP (x+y):=by
      refine cX ?_ ?_
      ·rcases tx with ⟨e,_⟩ | ⟨e,_⟩ | ⟨e,_⟩<;>rcases ty with ⟨e',_⟩ | ⟨e',_⟩ | ⟨e',_⟩<;>rw[e,e'] at hp<;>omega
      ·intro hn
       rcases tx with ⟨e,_⟩ | ⟨e,_⟩ | ⟨e,_⟩<;>rcases ty with ⟨e',_⟩ | ⟨e',_⟩ | ⟨e',_⟩<;>rw[e,e'] at hp<;>rw[e']<;>first | omega | exact (XI (by omega)).symm | exact (XK (by omega)).symm
     simp only[go_sem,go_sem_proc,WB,al,oQ,gd,gz,aJ,aK,ck,hr,hr2,hl1,hl2,hw,hp,decide_false,hcm,hcr,hsub,hlen2,hs,iF,bF,dR,cS]
     repeat' (first|refine qS ?_ ?_|fail)<;>intro h<;>simp only[h,go_sem,go_sem_proc,WB,al,oQ,gd,gz,aJ,aK,ck,hr,hr2,hl1,hl2,hw,hp,decide_false,hcm,hcr,hsub,hlen2,hs,iF,bF,dR,cS]
    ·have hcr:decide (fW x.natAbs y.natAbs<0)=false:=by unfold fW;rw[if_neg (by simp;omega)];split<;>rfl
     have hsub:=uS x.natAbs y.natAbs ⟨by omega,by omega⟩
     simp only[digs] at hsub;have hlen2:(dg (x.natAbs-y.natAbs)).length≤1000000:=XP (sJ _ _) (by omega)
     have hs:eU x.sign (dg (x.natAbs-y.natAbs))=aP (x+y):=by
      refine cX ?_ ?_
      ·rcases tx with ⟨e,_⟩ | ⟨e,_⟩ | ⟨e,_⟩<;>rcases ty with ⟨e',_⟩ | ⟨e',_⟩ | ⟨e',_⟩<;>rw[e,e'] at hp<;>omega
      ·intro hn
       rcases tx with ⟨e,_⟩ | ⟨e,_⟩ | ⟨e,_⟩<;>rcases ty with ⟨e',_⟩ | ⟨e',_⟩ | ⟨e',_⟩<;>rw[e,e'] at hp<;>rw[e]<;>first | omega | exact (XI (by omega)).symm | exact (XK (by omega)).symm
     simp only[go_sem,go_sem_proc,WB,al,oQ,gd,gz,aJ,aK,ck,hr,hr2,hl1,hl2,hw,hp,decide_false,hcm,hcr,hsub,hlen2,hs,iF,bF,dR,cS]
     repeat' (first|refine qS ?_ ?_|fail)<;>intro h<;>simp only[h,go_sem,go_sem_proc,WB,al,oQ,gd,gz,aJ,aK,ck,hr,hr2,hl1,hl2,hw,hp,decide_false,hcm,hcr,hsub,hlen2,hs,iF,bF,dR,cS]
  ·have hr2:aI (s2,l2)=false:=by simpa using hr2
   have hm:qQ (s,l) (s2,l2)=((0,[]),1):=by unfold qQ;rw[hr2,XM];rfl
   rw[hm];have hch:=gQ false 0 [];simp only[XL] at hch;simp only[go_sem,go_sem_proc,WB,al,oQ,gd,gz,aJ,aK,ck,hr,hr2,hl1,hl2,hch,bF,dR,XL]
   repeat' (first|refine qS ?_ ?_|fail)<;>intro h<;>simp only[h,go_sem,go_sem_proc,WB,al,oQ,gd,gz,aJ,aK,ck,hr,hr2,hl1,hl2,hch,bF,dR,XL]
 ·have hr:aI (s,l)=false:=by simpa using hr
  have hm:qQ (s,l) (s2,l2)=((0,[]),1):=by unfold qQ;rw[hr,XN];rfl
  rw[hm];have hch:=gQ false 0 [];simp only[XL] at hch;simp only[go_sem,go_sem_proc,WB,al,oQ,gd,gz,aJ,aK,ck,hr,hl1,hl2,hch,bF,dR,XL]
  repeat' (first|refine qS ?_ ?_|fail)<;>intro h<;>simp only[h,go_sem,go_sem_proc,WB,al,oQ,gd,gz,aJ,aK,ck,hr,hl1,hl2,hch,bF,dR,XL]
theorem cz (x:Int):(x.sign=1∧0<x)∨(x.sign=0∧x=0)∨(x.sign = -1∧x<0):=by
 rcases Xq x 0 with h | h | h
 ·exact .inr (.inr ⟨XK h,h⟩)
 ·exact .inr (.inl ⟨by rw[h];rfl,h⟩)
 ·exact .inl ⟨XI h,h⟩
def uN (a b:Raw):Int:=if (aI a&&aI b)=true then fW (gM a) (gM b) else 0
theorem Ax {x y:Int} (hx:x.natAbs<LIM) (hy:y.natAbs<LIM):uN (aP x) (aP y)=fW x y:=by
 unfold uN;rw[bJ hx,bJ hy,aQ,aQ]
 rfl
theorem p6 {x y:Int} (h:x<y):fW x y = -1:=by unfold fW;rw[if_pos (by simpa using h)]
theorem qG {x y:Int} (h:y<x):fW x y=1:=by unfold fW;rw[if_neg (by simp;omega),if_pos (by simpa using h)]
theorem sM (x:Int):fW x x=0:=by unfold fW;simp
noncomputable def rQ:List Data→Option PRes:=FF (α:=Int × (List Int) × Int × (List Int)) (fun (s,l,s2,l2)=>([.agg [.int .i64 s,.sl (l.map aa)],.agg [.int .i64 s2,.sl (l2.map aa)]]:List Data)) (fun (s,l,s2,l2)=>aG (l.length≤1000000∧l2.length≤1000000) (.same (.int .i64 (uN (s,l) (s2,l2)))))
theorem vq:∀ a b:Int × (List Int) × Int × (List Int),(fun (s,l,s2,l2)=>([.agg [.int .i64 s,.sl (l.map aa)],.agg [.int .i64 s2,.sl (l2.map aa)]]:List Data)) a=(fun (s,l,s2,l2)=>([.agg [.int .i64 s,.sl (l.map aa)],.agg [.int .i64 s2,.sl (l2.map aa)]]:List Data)) b→a=b:=by
  rintro⟨s1,l1,s21,l21⟩ ⟨s2,l2,s22,l22⟩ h;simp only[List.cons.injEq,Data.agg.injEq,Data.int.injEq,Data.sl.injEq] at h;exact Wy h.1.1.2 (Wy (af ai _ _ h.1.2.1) (Wy h.2.1.1.2 (af ai _ _ h.2.1.2.1)))
@[go_sem] theorem LW (s:Int) (l:List Int) (s2:Int) (l2:List Int) (hc:l.length≤1000000∧l2.length≤1000000):rQ [.agg [.int .i64 s,.sl (l.map aa)],.agg [.int .i64 s2,.sl (l2.map aa)]]=some (.same (.int .i64 (uN (s,l) (s2,l2)))):=(aV vq (s,l,s2,l2)).trans (an hc _)
theorem GF (T:Tab) (al:T aY=mkE d8) (fu:T dz=mkE yu) (aJ:T dZ=mkE mz) (s:Int) (l:List Int) (s2:Int) (l2:List Int) (hc:l.length≤1000000∧l2.length≤1000000) :
  wp T mf_big_Compare.body (bG mf_big_Compare.res (.same (.int .i64 (uN (s,l) (s2,l2))))) ⟨ax [.dat (.agg [.int .i64 s,.sl (l.map aa)]),.dat (.agg [.int .i64 s2,.sl (l2.map aa)])],emp⟩:=by
 refine ap ?_;simp only[mf_big_Compare];obtain⟨hl1,hl2⟩:=hc
 by_cases hr:aI (s,l)=true
 ·by_cases hr2:aI (s2,l2)=true
  ·obtain⟨x,hx,e⟩:=(bj _).1 hr
   obtain⟨y,hy,e2⟩:=(bj _).1 hr2;have hm:uN (s,l) (s2,l2)=fW x y:=by rw[e,e2];exact Ax hx hy
   rw[hm];clear hm
   cases e
   cases e2;have hlx:=fD hx;have hly:=fD hy;have hcm:=mN x.natAbs y.natAbs ⟨by omega,by omega⟩
   simp only[digs] at hcm
   by_cases hs:x.sign=y.sign
   ·have hse:(x.sign==y.sign)=true:=by simpa using hs
    have hres:IntKind.i64.wrap (y.sign*fW x.natAbs y.natAbs)=fW x y:=by
     rcases cz x with ⟨e,h1⟩ | ⟨e,h1⟩ | ⟨e,h1⟩<;>rcases cz y with ⟨e',h2⟩ | ⟨e',h2⟩ | ⟨e',h2⟩<;>rw[e,e'] at hs<;>first | omega | skip
     ·rw[e',Xr,show (x.natAbs:Int)=x by omega,show (y.natAbs:Int)=y by omega]
      rcases Xq x y with h | h | h
      ·rw[p6 h];rfl
      ·rw[h,sM];rfl
      ·rw[qG h];rfl
     ·rw[e',h1,h2];rfl
     ·rw[e']
      rcases Xq x y with h | h | h
      ·rw[p6 h,qG (by omega)];rfl
      ·rw[h,sM,sM];rfl
      ·rw[qG h,p6 (by omega)];rfl
    rw[←hs] at hres;simp only[go_sem,go_sem_proc,WB,al,fu,aJ,hr,hr2,hl1,hl2,hse,hcm,hres]
    repeat' (first|refine qS ?_ ?_|fail)<;>intro h<;>simp only[h,go_sem,go_sem_proc,WB,al,fu,aJ,hr,hr2,hl1,hl2,hse,hcm,hres]
   ·have hse:(x.sign==y.sign)=false:=by simpa using hs
    have hres:fW x.sign y.sign=fW x y:=by
     rcases cz x with ⟨e,h1⟩ | ⟨e,h1⟩ | ⟨e,h1⟩<;>rcases cz y with ⟨e',h2⟩ | ⟨e',h2⟩ | ⟨e',h2⟩<;>rw[e,e'] at hs ⊢<;>first | omega | (rw[p6 (show x<y by omega)];rfl) | (rw[qG (show y<x by omega)];rfl)
    simp only[go_sem,go_sem_proc,WB,al,fu,aJ,hr,hr2,hl1,hl2,hse,hres]
    repeat' (first|refine qS ?_ ?_|fail)<;>intro h<;>simp only[h,go_sem,go_sem_proc,WB,al,fu,aJ,hr,hr2,hl1,hl2,hse,hres]
  ·have hr2:aI (s2,l2)=false:=by simpa using hr2
   have hm:uN (s,l) (s2,l2)=0:=by unfold uN;rw[hr2,XM];rfl
   rw[hm];simp only[go_sem,go_sem_proc,WB,al,fu,aJ,hr,hr2,hl1,hl2]
   repeat' (first|refine qS ?_ ?_|fail)<;>intro h<;>simp only[h,go_sem,go_sem_proc,WB,al,fu,aJ,hr,hr2,hl1,hl2]
 ·have hr:aI (s,l)=false:=by simpa using hr
  have hm:uN (s,l) (s2,l2)=0:=by unfold uN;rw[hr,XN];rfl
  rw[hm];simp only[go_sem,go_sem_proc,WB,al,fu,aJ,hr,hl1,hl2]
  repeat' (first|refine qS ?_ ?_|fail)<;>intro h<;>simp only[h,go_sem,go_sem_proc,WB,al,fu,aJ,hr,hl1,hl2]
def kp (a b:Raw):Raw × Int:=if (aI a&&aI b)=true then (aP (XQ (gM a).natAbs (gM b).natAbs:Nat),0) else ((0,[]),1)
theorem qg {x y:Int} (hx:x.natAbs<LIM) (hy:y.natAbs<LIM):XQ x.natAbs y.natAbs<LIM:=by
 rcases XR x.natAbs with h | h
 ·rw[h,Nat.gcd_zero_left];exact hy
 ·exact Wz (Nat.gcd_le_left _ h) hx
noncomputable def Ex:List Data→Option PRes:=FF (α:=Int × (List Int) × Int × (List Int)) (fun (s,l,s2,l2)=>([.agg [.int .i64 s,.sl (l.map aa)],.agg [.int .i64 s2,.sl (l2.map aa)]]:List Data)) (fun (s,l,s2,l2)=>aG (l.length≤1000000∧l2.length≤1000000) (.same (dR (kp (s,l) (s2,l2)))))
theorem FB:∀ a b:Int × (List Int) × Int × (List Int),(fun (s,l,s2,l2)=>([.agg [.int .i64 s,.sl (l.map aa)],.agg [.int .i64 s2,.sl (l2.map aa)]]:List Data)) a=(fun (s,l,s2,l2)=>([.agg [.int .i64 s,.sl (l.map aa)],.agg [.int .i64 s2,.sl (l2.map aa)]]:List Data)) b→a=b:=by
  rintro⟨s1,l1,s21,l21⟩ ⟨s2,l2,s22,l22⟩ h;simp only[List.cons.injEq,Data.agg.injEq,Data.int.injEq,Data.sl.injEq] at h;exact Wy h.1.1.2 (Wy (af ai _ _ h.1.2.1) (Wy h.2.1.1.2 (af ai _ _ h.2.1.2.1)))
@[go_sem] theorem RR (s:Int) (l:List Int) (s2:Int) (l2:List Int) (hc:l.length≤1000000∧l2.length≤1000000):Ex [.agg [.int .i64 s,.sl (l.map aa)],.agg [.int .i64 s2,.sl (l2.map aa)]]=some (.same (dR (kp (s,l) (s2,l2)))):=(aV FB (s,l,s2,l2)).trans (an hc _)
theorem Qx (T:Tab) (al:T aY=mkE d8) (aS:T bt=mkE lk) (iD:T kK=mkE ES) (aK:T bB=mkE jK) (ck:T co=mkE ma) (s:Int) (l:List Int) (s2:Int) (l2:List Int) (hc:l.length≤1000000∧l2.length≤1000000) :
  wp T mf_big_Gcd.body (bG mf_big_Gcd.res (.same (dR (kp (s,l) (s2,l2))))) ⟨ax [.dat (.agg [.int .i64 s,.sl (l.map aa)]),.dat (.agg [.int .i64 s2,.sl (l2.map aa)])],emp⟩:=by
 refine ap ?_;simp only[mf_big_Gcd];obtain⟨hl1,hl2⟩:=hc
 by_cases hr:aI (s,l)=true
 ·by_cases hr2:aI (s2,l2)=true
  ·obtain⟨x,hx,e⟩:=(bj _).1 hr
   obtain⟨y,hy,e2⟩:=(bj _).1 hr2
   have hm:kp (s,l) (s2,l2)=(aP (XQ x.natAbs y.natAbs:Nat),0):=by
    rw[e,e2];unfold kp
    rw[bJ hx,bJ hy,aQ,aQ]
    rfl
   rw[hm];clear hm
   cases e
   cases e2;have hlx:=fD hx;have hly:=fD hy;have hg:=qg hx hy;generalize hX:x.natAbs=X at *;generalize hY:y.natAbs=Y at *;have hl1':(dg X).length≤1000000:=by omega
   simp only[go_sem,go_sem_proc,WB,al,aS,iD,aK,ck,hr,hr2,hX,hY,hl1,hl2,hl1',aa,WC];refine ae [4] [137004] (fun ((a,b):Nat × Nat) tm mem=>a<LIM∧b<LIM∧XQ X Y=XQ a b∧tm 6 = .dat (.sl ((dg a).map aa))∧tm 7 = .dat (.sl ((dg b).map aa))) (fun (_,b)=>b) (X,Y) (by refine⟨hx,hy,rfl,rfl,rfl⟩) ?_
   intro vs ms hvs hms;simp only[go_sem,go_sem_proc,WB,al,aS,iD,aK,ck,hX,hY] at hvs hms;subst hvs hms;rintro⟨a,b⟩ tm mem hk hm ⟨ha,hb,hgc,h6,h7⟩;simp only[go_sem,go_sem_proc,WB,al,aS,iD,aK,ck,List.cons.injEq] at hk hm;have h4:=hk;have hla:(dg a).length≤60:=dg_len.2 ha;have hlb:(dg b).length≤60:=dg_len.2 hb;rcases XR b with h0 | hpos
   ·subst h0
    have hz:dg 0=[]:=rfl;have hla':(dg a).length≤1000000:=by omega
    rw[Nat.gcd_zero_right] at hgc;have hs:eU 1 (dg a)=aP ((a:Nat):Int):=cX (by simp) fun hn=>(XI (by omega)).symm
    have hk:lj ((a:Nat):Int)=(aP ((a:Nat):Int),0):=by unfold lj;rw[if_pos (by simpa using ha)]
    rw[hgc];refine qI ?_
    repeat' (intro h<;>simp only[h,go_sem,go_sem_proc,WB,al,aS,iD,aK,ck,h4,h6,h7,hm,hz,hla',hs,hk,iF,bF,dR,cS,XL,List.length_nil,W6,W7,show ¬ ((0:Int)>0) by omega,decide_false]<;>try refine qS ?_ ?_)
   ·have hne:decide (((dg b).length:Int)>0)=true:=by
     have:dg b≠[]:=by rw[Ne,ni];omega
     have:=List.length_pos_iff.2 this;exact decide_eq_true (by omega)
    have hdiv:=BF a b ⟨by omega,by omega,hpos⟩
    simp only[digs] at hdiv;refine qI ?_
    repeat' (intro h<;>simp only[h,go_sem,go_sem_proc,WB,al,aS,iD,aK,ck,h4,h6,h7,hm,hne,hdiv,WC]<;>try refine qS ?_ ?_)
    exact⟨(b,a % b),Nat.mod_lt _ hpos,hb,Wz (Nat.mod_le _ _) ha,by dsimp only;rw[hgc,XS a b,Nat.gcd_rec b a,XS],rfl,rfl⟩
  ·have hr2:aI (s2,l2)=false:=by simpa using hr2
   have hm:kp (s,l) (s2,l2)=((0,[]),1):=by unfold kp;rw[hr2,XM];rfl
   rw[hm];have hch:=gQ false 0 [];simp only[XL] at hch;refine qI ?_
   repeat' (intro h<;>simp only[h,go_sem,go_sem_proc,WB,al,aS,iD,aK,ck,hr,hr2,hl1,hl2,hch,bF,dR,XL]<;>try refine qS ?_ ?_)
 ·have hr:aI (s,l)=false:=by simpa using hr
  have hm:kp (s,l) (s2,l2)=((0,[]),1):=by unfold kp;rw[hr,XN];rfl
  rw[hm];have hch:=gQ false 0 [];simp only[XL] at hch;refine qI ?_
  repeat' (intro h<;>simp only[h,go_sem,go_sem_proc,WB,al,aS,iD,aK,ck,hr,hl1,hl2,hch,bF,dR,XL]<;>try refine qS ?_ ?_)
end Go.Mini
