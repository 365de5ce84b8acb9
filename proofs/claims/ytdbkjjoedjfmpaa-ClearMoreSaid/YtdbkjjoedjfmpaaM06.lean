/- A part of the proof. -/
import Derived.Test.YtdbkjjoedjfmpaaM05
import Derived.Test.YtdbkjjoedjfmpaaM04
set_option linter.unusedSimpArgs false
set_option linter.unusedVariables false
open Nat renaming div_add_mod → XP, eq_zero_or_pos → XQ, mod_lt → XR, zero_mod → X1, mul_le_mul_right → X2, div_le_self → X3, le_of_lt → Yb, pos_of_ne_zero → Yh, reduceMul → Yx, gcd → YC
open Int renaming ofNat_sub → XS, natCast_add → XT, mul_neg → XU, mul_add → XV, neg_mul → XW, one_mul → XX, zero_mul → XY, mul_zero → XZ, mul_one → X0, natAbs_mul → X4, natAbs_natCast → X5, sign_eq_zero_iff_zero → X9, sign_mul → Ya, natAbs_neg → Yc, sign_neg → Yd, sign_eq_one_of_pos → Ye, sign_sign → Yf, sign_eq_neg_one_of_neg → Yn, natCast_zero → Yo, cast_ofNat_Int → Yp, mul_nonneg → Yu, le_of_lt → Yv, pow_pos → Yw, reducePow → Yy, toNat_natCast → YA, mul_comm → YB, fdiv_eq_ediv_of_nonneg → YH, lt_trichotomy → YI, mul_ne_zero → YM, mul_fdiv_add_fmod → YO, zero_sub → YP, sign_zero → YQ, sub_zero → YR
open Prod renaming ext → X6, ext_iff → Yk, fst → YK
open Bool renaming false_eq_true → X7, and_false → Yi, false_and → Yj, and_eq_true → YF, true_and → YG
open List renaming map_nil → X8, length_map → Yg, append_nil → Ym, take_length → Yq, length → Yr, length_append → Ys, append_assoc → Yt, getElem?_map → Yz
open Decidable renaming em → Yl
open Rat renaming divInt → YD, num_divInt_den → YE, neg_divInt_neg → YJ, divInt_mul_divInt → YL, sub_eq_add_neg → YN
namespace Go.Mini
open Go
set_option maxRecDepth 10000
set_option maxHeartbeats 2000000
def je (a b:Raw):Raw × Raw × Int :=
 if (aJ a&&aJ b)=true then
  if gP b=0 then ((0,[]),(0,[]),15) else (aR ((gP a).fdiv (gP b)),aR ((gP a).fmod (gP b)),0)
 else ((0,[]),(0,[]),1)
def dj (x:Raw × Raw × Int):Data:=.tup [.agg (bF x.1),.agg (bF x.2.1),.int .i64 x.2.2]
theorem EX {x y q r:Int} (h:r+y*q=x) (hr:(0≤r∧r<y)∨(y<r∧r≤0)):x.fdiv y=q∧x.fmod y=r:=by
 rcases hr with ⟨h1,h2⟩ | ⟨h1,h2⟩
 ·exact (Int.fdiv_fmod_unique (by omega)).2 ⟨h,h1,h2⟩
 ·exact (Int.fdiv_fmod_unique' (by omega)).2 ⟨h,h1,h2⟩
theorem oB {x y:Int} (h:x.sign*y.sign<0) (hm:x.natAbs % y.natAbs≠0) :
  x.fdiv y = -((x.natAbs / y.natAbs+1:Nat):Int)∧x.fmod y=y.sign*((y.natAbs-x.natAbs % y.natAbs:Nat):Int):=by
 have h2:=XP x.natAbs y.natAbs;generalize hQ:x.natAbs / y.natAbs=Q at *;generalize hR:x.natAbs % y.natAbs=R at *
 have hy:0<y.natAbs:=by
  rcases XQ y.natAbs with h0 | h0
  ·rw[Int.natAbs_eq_zero.1 h0] at h;simp at h
  ·exact h0
 have hlt:R<y.natAbs:=by rw[←hR];exact XR _ hy
 have h2':(y.natAbs:Int)*Q+R=x.natAbs:=by exact_mod_cast h2
 refine EX ?_ ?_
 ·rcases cD x with ⟨e,h1⟩ | ⟨e,h1⟩ | ⟨e,h1⟩<;>rcases cD y with ⟨e',h3⟩ | ⟨e',h3⟩ | ⟨e',h3⟩<;>rw[e,e'] at h<;>first | omega | rw[e']
  ·rw[XS (by omega),XT,XU,XV]
   have:(y.natAbs:Int) = -y:=by omega
   rw[this] at h2' ⊢;rw[XW] at h2';omega
  ·rw[XS (by omega),XT,XU,XV]
   have:(y.natAbs:Int)=y:=by omega
   rw[this] at h2' ⊢;omega
 ·rcases cD y with ⟨e',h3⟩ | ⟨e',h3⟩ | ⟨e',h3⟩<;>rw[e']<;>omega
theorem lu {x y:Int} (hy:y≠0) (h:¬ (x.sign*y.sign<0∧x.natAbs % y.natAbs≠0)) :
  x.fdiv y=x.sign*y.sign*((x.natAbs / y.natAbs:Nat):Int)∧x.fmod y=x.sign*((x.natAbs % y.natAbs:Nat):Int):=by
 have h2:=XP x.natAbs y.natAbs;have hlt:x.natAbs % y.natAbs<y.natAbs:=XR _ (by omega);generalize hQ:x.natAbs / y.natAbs=Q at *;generalize hR:x.natAbs % y.natAbs=R at *;have h2':(y.natAbs:Int)*Q+R=x.natAbs:=by exact_mod_cast h2
 refine EX ?_ ?_
 ·rcases cD x with ⟨e,h1⟩ | ⟨e,h1⟩ | ⟨e,h1⟩<;>rcases cD y with ⟨e',h3⟩ | ⟨e',h3⟩ | ⟨e',h3⟩<;>first | omega | (rw[e,e'])
  ·rw[show (y.natAbs:Int)=y by omega] at h2';simp only[XX];omega
  ·rw[show (y.natAbs:Int) = -y by omega,XW] at h2';simp only[XX,XW,XU];omega
  ·simp only[XY,XZ];omega
  ·simp only[XY,XZ];omega
  ·rw[show (y.natAbs:Int)=y by omega] at h2';simp only[XX,XW,XU,X0];omega
  ·rw[show (y.natAbs:Int) = -y by omega,XW] at h2';simp only[XX,XW,XU,Int.neg_neg];omega
 ·have hR0:x.natAbs=0→R=0:=by
   intro h0;rw[←hR,h0,X1]
  rcases cD x with ⟨e,h1⟩ | ⟨e,h1⟩ | ⟨e,h1⟩<;>rcases cD y with ⟨e',h3⟩ | ⟨e',h3⟩ | ⟨e',h3⟩<;>rw[e,e'] at h<;>rw[e]<;>omega
theorem lY {x y:Int} (hx:x.natAbs<LIM) (hy0:y≠0):(x.fdiv y).natAbs<LIM:=by
 by_cases h:x.sign*y.sign<0∧x.natAbs % y.natAbs≠0
 ·have hf:=(oB h.1 h.2).1
  have h2:=XP x.natAbs y.natAbs
  have:x.natAbs / y.natAbs+1≤x.natAbs:=by
   have hy2:2≤y.natAbs:=by
    rcases Nat.lt_or_ge y.natAbs 2 with h0 | h0
    ·have:y.natAbs=1:=by omega
     rw[this,Nat.mod_one] at h;exact absurd rfl h.2
    ·exact h0
   have h3:2*(x.natAbs / y.natAbs)≤y.natAbs*(x.natAbs / y.natAbs):=X2 _ hy2;omega
  generalize x.natAbs / y.natAbs=Q at *;omega
 ·have hf:=(lu hy0 h).1
  have h3:x.natAbs / y.natAbs≤x.natAbs:=X3 _ _
  have h4:(x.fdiv y).natAbs≤x.natAbs / y.natAbs:=by
   rw[hf,X4,X4,X5];have h1:x.sign.natAbs≤1:=by have:=eh x;omega
   have h2:y.sign.natAbs≤1:=by have:=eh y;omega
   have:=Nat.mul_le_mul h1 h2;have:=X2 (x.natAbs / y.natAbs) this;omega
  omega
theorem zh {x y:Int} (hy:y.natAbs<LIM) (hy0:y≠0):(x.fmod y).natAbs<LIM:=by
 by_cases h:x.sign*y.sign<0∧x.natAbs % y.natAbs≠0
 ·have hf:=(oB h.1 h.2).2
  rcases cD y with ⟨e',h3⟩ | ⟨e',h3⟩ | ⟨e',h3⟩<;>rw[e'] at hf<;>omega
 ·have hf:=(lu hy0 h).2
  have hlt:x.natAbs % y.natAbs<y.natAbs:=XR _ (by omega);rcases cD x with ⟨e',h3⟩ | ⟨e',h3⟩ | ⟨e',h3⟩<;>rw[e'] at hf<;>omega
theorem kA {x y:Int} (hx:x.natAbs<LIM) (hy:y.natAbs<LIM) (h0:y≠0):je (aR x) (aR y)=(aR (x.fdiv y),aR (x.fmod y),0):=by
 unfold je;rw[bK hx,bK hy,aU,aU,if_pos (by rfl),if_neg h0]
noncomputable def D8:List Data→Option PRes:=FF (α:=Int × (List Int) × Int × (List Int)) (fun (s,l,s2,l2)=>([.agg [.int .i64 s,.sl (l.map aa)],.agg [.int .i64 s2,.sl (l2.map aa)]]:List Data)) (fun (s,l,s2,l2)=>aI (l.length≤1000000∧l2.length≤1000000) (.same (dj (je (s,l) (s2,l2)))))
theorem Hg:∀ a b:Int × (List Int) × Int × (List Int),(fun (s,l,s2,l2)=>([.agg [.int .i64 s,.sl (l.map aa)],.agg [.int .i64 s2,.sl (l2.map aa)]]:List Data)) a=(fun (s,l,s2,l2)=>([.agg [.int .i64 s,.sl (l.map aa)],.agg [.int .i64 s2,.sl (l2.map aa)]]:List Data)) b→a=b:=by
  rintro⟨s1,l1,s21,l21⟩ ⟨s2,l2,s22,l22⟩ h;simp only[List.cons.injEq,Data.agg.injEq,Data.int.injEq,Data.sl.injEq] at h;exact X6 h.1.1.2 (X6 (ah ak _ _ h.1.2.1) (X6 h.2.1.1.2 (ah ak _ _ h.2.1.2.1)))
@[go_sem] theorem Q4 (s:Int) (l:List Int) (s2:Int) (l2:List Int) (hc:l.length≤1000000∧l2.length≤1000000):D8 [.agg [.int .i64 s,.sl (l.map aa)],.agg [.int .i64 s2,.sl (l2.map aa)]]=some (.same (dj (je (s,l) (s2,l2)))):=(aZ Hg (s,l,s2,l2)).trans (ap hc _)
theorem QW (T:Tab) (an:T bb=mkE ej) (iN:T kI=mkE Eb) (gG:T kU=mkE D5) (gw:T jh=mkE Ex) (aO:T bD=mkE jE) (s:Int) (l:List Int) (s2:Int) (l2:List Int) (hc:l.length≤1000000∧l2.length≤1000000) :
  wp T mf_big_Div.body (bG mf_big_Div.res (.same (dj (je (s,l) (s2,l2))))) ⟨az [.dat (.agg [.int .i64 s,.sl (l.map aa)]),.dat (.agg [.int .i64 s2,.sl (l2.map aa)])],emp⟩:=by
 refine aq ?_;simp only[mf_big_Div];obtain⟨hl1,hl2⟩:=hc
 by_cases hr:aJ (s,l)=true
 ·by_cases hr2:aJ (s2,l2)=true
  ·obtain⟨x,hx,e⟩:=(bm _).1 hr
   obtain⟨y,hy,e2⟩:=(bm _).1 hr2
   by_cases hy0:y=0
   ·have hm:je (s,l) (s2,l2)=((0,[]),(0,[]),15):=by
     rw[e,e2];unfold je
     rw[bK hx,bK hy,aU,aU,if_pos (by rfl),if_pos hy0]
    rw[hm]
    cases e
    cases e2;have h0:((y.sign:Int)==0)=true:=by rw[hy0];rfl
    simp only[go_sem,go_sem_proc,X7,an,iN,gG,gw,aO,hr,hr2,hl1,hl2,h0,bF,dj,X8]
    repeat' (first|refine qS ?_ ?_|fail)<;>intro h<;>simp only[h,go_sem,go_sem_proc,X7,an,iN,gG,gw,aO,hr,hr2,hl1,hl2,h0,bF,dj,X8]
   ·have hm:je (s,l) (s2,l2)=(aR (x.fdiv y),aR (x.fmod y),0):=by
     rw[e,e2];exact kA hx hy hy0
    rw[hm];clear hm
    cases e
    cases e2;have hlx:=fF hx;have hly:=fF hy;have hy0':(y.sign==0)=false:=by rw[beq_eq_false_iff_ne,Ne,X9];exact hy0
    have hypos:0<y.natAbs:=by omega
    have h1:=eh x;have h2:=eh y;have hp:x.sign*y.sign=(x*y).sign:=(Ya x y).symm;have h3:=eh (x*y);have hw:IntKind.i64.wrap (x.sign*y.sign)=x.sign*y.sign:=by rw[hp];exact al _ (by omega) (by omega)
    have hdiv:=zY x.natAbs y.natAbs ⟨by omega,by omega,hypos⟩
    simp only[digs] at hdiv;have hq:=lY (y:=y) hx hy0;have hr3:=zh (x:=x) hy hy0;have hlq:x.natAbs / y.natAbs<LIM:=Nat.lt_of_le_of_lt (X3 _ _) hx;have hlq':(dg (x.natAbs / y.natAbs)).length≤60:=dg_len.2 hlq;have hlr:x.natAbs % y.natAbs<LIM:=Nat.lt_trans (XR _ hypos) hy;have hlr':(dg (x.natAbs % y.natAbs)).length≤60:=dg_len.2 hlr
    by_cases hlow:x.sign*y.sign<0∧x.natAbs % y.natAbs≠0
    ·obtain⟨eq,er⟩:=oB hlow.1 hlow.2
     have hne:decide (((dg (x.natAbs % y.natAbs)).length:Int)>0)=true:=by
      have:dg (x.natAbs % y.natAbs)≠[]:=by rw[Ne,mQ];exact hlow.2
      have:=List.length_pos_iff.2 this;exact decide_eq_true (by omega)
     have hneg:decide (x.sign*y.sign<0)=true:=decide_eq_true hlow.1;have hd1:dg 1=[1]:=by simp [dg,dgF]
     have hl1d:(dg 1).length=1:=by rw[hd1];rfl
     have hadd:=BB (x.natAbs / y.natAbs) 1 ⟨by omega,by omega⟩
     simp only[digs,hd1,List.map_cons,X8,aa] at hadd;have hsub:=uE y.natAbs (x.natAbs % y.natAbs) ⟨by omega,Yb (XR _ hypos)⟩
     simp only[digs] at hsub
     have hla:(dg (x.natAbs / y.natAbs+1)).length≤1000000:=by
      have:(x.natAbs / y.natAbs+1)<LIM:=by rw[eq] at hq;rw[Yc,X5] at hq;exact hq
      have:=(dg_len (k:=60)).2 this;omega
     have hlb:(dg (y.natAbs-x.natAbs % y.natAbs)).length≤1000000:=by have:=sO y.natAbs (x.natAbs % y.natAbs);omega
     have hs1:ff (-1) (dg (x.natAbs / y.natAbs+1))=aR (x.fdiv y):=cZ (by rw[eq,Yc,X5]) fun _=>by rw[eq,Yd,Ye (show (0:Int)<((x.natAbs / y.natAbs+1:Nat):Int) by exact Int.natCast_pos.2 (Nat.succ_pos _))]
     have hs2:ff y.sign (dg (y.natAbs-x.natAbs % y.natAbs))=aR (x.fmod y):=by
      refine cZ ?_ fun hn=>?_
      ·rw[er];rcases cD y with ⟨e',h3⟩ | ⟨e',h3⟩ | ⟨e',h3⟩<;>rw[e']<;>omega
      ·rw[er,Ya,Yf,Ye (show (0:Int)<((y.natAbs-x.natAbs % y.natAbs:Nat):Int) by omega),X0]
     simp only[go_sem,go_sem_proc,X7,an,iN,gG,gw,aO,hr,hr2,hl1,hl2,hy0',hw,hdiv,hne,hneg,hadd,hsub,hla,hlb,hs1,hs2,aa,Yg,bF,dj,cS]
     repeat' (first|refine qS ?_ ?_|fail)<;>intro h<;>simp only[h,go_sem,go_sem_proc,X7,an,iN,gG,gw,aO,hr,hr2,hl1,hl2,hy0',hw,hdiv,hne,hneg,hadd,hsub,hla,hlb,hs1,hs2,aa,Yg,bF,dj,cS]
    ·obtain⟨eq,er⟩:=lu hy0 hlow
     have hlow':(decide (x.sign*y.sign<0)=true∧decide (((dg (x.natAbs % y.natAbs)).length:Int)>0)=false)∨decide (x.sign*y.sign<0)=false:=by
      by_cases hn:x.sign*y.sign<0
      ·left
       have:x.natAbs % y.natAbs=0:=Decidable.not_not.1 fun h=>hlow ⟨hn,h⟩
       rw[this];exact⟨decide_eq_true hn,rfl⟩
      ·right;exact decide_eq_false hn
     have hla:(dg (x.natAbs / y.natAbs)).length≤1000000:=by omega
     have hlb:(dg (x.natAbs % y.natAbs)).length≤1000000:=by omega
     have hs1:ff (x.sign*y.sign) (dg (x.natAbs / y.natAbs))=aR (x.fdiv y):=by
      refine cZ ?_ fun hn=>?_
      ·rw[eq]
       have hgen:∀ Q:Nat,(x=0→Q=0)→(x.sign*y.sign*(Q:Int)).natAbs=Q:=by
        intro Q h0;rcases cD x with ⟨e,h1⟩ | ⟨e,h1⟩ | ⟨e,h1⟩<;>rcases cD y with ⟨e',h3⟩ | ⟨e',h3⟩ | ⟨e',h3⟩<;>rw[e,e']<;>first | omega | (rw[h0 h1];rfl)
       exact hgen _ fun h0=>by rw[h0];exact Nat.zero_div _
      ·rw[eq,hp,Ya,Ya,Ya,Yf,Yf,Ye (show (0:Int)<((x.natAbs / y.natAbs:Nat):Int) from Int.natCast_pos.2 (Yh hn)),X0]
     have hs2:ff x.sign (dg (x.natAbs % y.natAbs))=aR (x.fmod y):=by
      refine cZ ?_ fun hn=>?_
      ·rw[er]
       have hgen:∀ Q:Nat,(x=0→Q=0)→(x.sign*(Q:Int)).natAbs=Q:=by
        intro Q h0;rcases cD x with ⟨e,h1⟩ | ⟨e,h1⟩ | ⟨e,h1⟩<;>rw[e]<;>first | omega | (rw[h0 h1];rfl)
       exact hgen _ fun h0=>by rw[h0];exact X1 _
      ·rw[er,Ya,Yf,Ye (show (0:Int)<((x.natAbs % y.natAbs:Nat):Int) from Int.natCast_pos.2 (Yh hn)),X0]
     rcases hlow' with ⟨hlow1,hlow2⟩ | hlow1
     ·simp only[go_sem,go_sem_proc,X7,an,iN,gG,gw,aO,hr,hr2,hl1,hl2,hy0',hw,hdiv,hlow1,hlow2,hla,hlb,hs1,hs2,aa,Yg,bF,dj,cS]
      repeat' (first|refine qS ?_ ?_|fail)<;>intro h<;>simp only[h,go_sem,go_sem_proc,X7,an,iN,gG,gw,aO,hr,hr2,hl1,hl2,hy0',hw,hdiv,hlow1,hlow2,hla,hlb,hs1,hs2,aa,Yg,bF,dj,cS]
     ·simp only[go_sem,go_sem_proc,X7,an,iN,gG,gw,aO,hr,hr2,hl1,hl2,hy0',hw,hdiv,hlow1,hla,hlb,hs1,hs2,aa,Yg,bF,dj,cS]
      repeat' (first|refine qS ?_ ?_|fail)<;>intro h<;>simp only[h,go_sem,go_sem_proc,X7,an,iN,gG,gw,aO,hr,hr2,hl1,hl2,hy0',hw,hdiv,hlow1,hla,hlb,hs1,hs2,aa,Yg,bF,dj,cS]
  ·have hr2:aJ (s2,l2)=false:=by simpa using hr2
   have hm:je (s,l) (s2,l2)=((0,[]),(0,[]),1):=by unfold je;rw[hr2,Yi];rfl
   rw[hm];simp only[go_sem,go_sem_proc,X7,an,iN,gG,gw,aO,hr,hr2,hl1,hl2,bF,dj,X8]
   repeat' (first|refine qS ?_ ?_|fail)<;>intro h<;>simp only[h,go_sem,go_sem_proc,X7,an,iN,gG,gw,aO,hr,hr2,hl1,hl2,bF,dj,X8]
 ·have hr:aJ (s,l)=false:=by simpa using hr
  have hm:je (s,l) (s2,l2)=((0,[]),(0,[]),1):=by unfold je;rw[hr,Yj];rfl
  rw[hm];simp only[go_sem,go_sem_proc,X7,an,iN,gG,gw,aO,hr,hl1,hl2,bF,dj,X8]
  repeat' (first|refine qS ?_ ?_|fail)<;>intro h<;>simp only[h,go_sem,go_sem_proc,X7,an,iN,gG,gw,aO,hr,hl1,hl2,bF,dj,X8]
def cn (n:Int):Prop:=-9223372036854775808≤n∧n≤9223372036854775807
theorem Lk {n:Nat} (h:n≤9223372036854775808):n<LIM:=by
 unfold LIM;refine Nat.lt_of_lt_of_le (m:=1048576^4) ?_ (Nat.pow_le_pow_right (by omega) (by omega));omega
theorem jy {n:Int} (h:cn n):n.natAbs<LIM:=Lk (by unfold cn at h;omega)
theorem rI (n:Int) (h1:-18446744073709551616≤n) (h2:n<0):IntKind.u64.wrap n=n+18446744073709551616:=by
 unfold IntKind.wrap;simp [IntKind.bits,IntKind.signed];omega
noncomputable def xy:List Data→Option PRes:=FF (α:=Int) (fun (n:Int)=>([.int .i64 n]:List Data)) (fun (n:Int)=>aI (cn n) (.same (.agg (bF (aR n)))))
theorem Af:∀ a b:Int,(fun (n:Int)=>([.int .i64 n]:List Data)) a=(fun (n:Int)=>([.int .i64 n]:List Data)) b→a=b:=by
  intro n1 n2 h;simp only[List.cons.injEq,Data.int.injEq,Data.agg.injEq,Data.sl.injEq,Data.bool.injEq,Data.str.injEq,Data.ptr.injEq,Data.tup.injEq,Prod.mk.injEq,true_and,and_true] at h ⊢
  first | exact h | simpa [Yk,and_assoc] using h | grind
@[go_sem] theorem OJ (n:Int) (hc:cn n):xy [.int .i64 n]=some (.same (.agg (bF (aR n)))):=(aZ Af n).trans (ap hc _)
theorem KY (T:Tab) (aO:T bD=mkE jE) (n:Int) (hc:cn n) :
  wp T mf_big_Of.body (bG mf_big_Of.res (.same (.agg (bF (aR n))))) ⟨az [.dat (.int .i64 n)],emp⟩:=by
 refine aq ?_;simp only[mf_big_Of];have hc':=hc;unfold cn at hc';obtain⟨hn1,hn2⟩:=hc';have hs:∀ s:Int,(n≠0→s=n.sign)→ff s (dg n.natAbs)=aR n:=fun s h=>cZ rfl fun hne=>h (by omega)
 have hlen:(dg n.natAbs).length≤60:=dg_len.2 (jy hc);rcases Yl (n<0) with hneg | hpos
 ·have hw:=rI n (by omega) hneg
  have hw2:IntKind.u64.wrap (0-(n+18446744073709551616))=(n.natAbs:Int):=by
   rw[rI _ (by omega) (by omega)];omega
  simp only[go_sem,go_sem_proc,X7,aO,hneg,hw,hw2,decide_true];refine af [2,3] [150002] (fun ((u,g,l):Nat × Nat × List Int) tm mem=>u≤9223372036854775808∧dg n.natAbs=l++dg u∧tm 4 = .dat (.int .u64 u)∧tm 5 = .ref 150021 g 1 0 l.length∧mem 150021=some (g,ay aa l)) (fun (u,_)=>u) (n.natAbs,0,[]) (by refine⟨by omega,rfl,?_,rfl,rfl⟩;rfl) ?_;intro vs ms hvs hms;simp only[go_sem,go_sem_proc,X7,aO] at hvs hms;subst hvs hms;rintro⟨u,g,l⟩ tm mem hk hm ⟨hu,hd,h4,h5,hm21⟩;simp only[go_sem,go_sem_proc,X7,aO,List.cons.injEq] at hk hm;obtain⟨h2,h3⟩:=hk;rcases XQ u with h0 | hup
  ·subst h0
   rw[f8,Ym] at hd;rw[hd] at hs hlen;have hlen':l.length≤1000000:=by omega
   have hs':=hs (-1) (fun _=>by exact (Yn hneg).symm);simp only[go_sem,go_sem_proc,X7,aO,h2,h3,h4,h5,hm,hm21,hs',hlen',bF,Yo,Yp,Yg,show ¬ ((0:Int)>0) by omega,decide_false,cu bq,Yq]
   repeat' (first|refine qS ?_ ?_|fail)<;>intro h<;>simp only[h,go_sem,go_sem_proc,X7,aO,h2,h3,h4,h5,hm,hm21,hs',hlen',bF,Yo,Yp,Yg,show ¬ ((0:Int)>0) by omega,decide_false,cu bq,Yq]
  ·have hul:l.length≤60:=by
    have:=congrArg Yr hd;rw[Ys] at this;omega
   have hgt:decide ((u:Int)>0)=true:=decide_eq_true (by omega);have hap:∀ a:Int,jR 150021 g 1 l.length 8 1 [.dat (.int .i64 a)] (some (g,ay aa l))=_:=fun a=>dw bq gz 150021 g 8 l a rfl (by omega) (by omega)
   have hand:=wX u ⟨by omega,by omega⟩
   have hcv:IntKind.i64.wrap ((u:Int) % 1048576)=(u:Int) % 1048576:=al _ (by omega) (by omega);simp only[go_sem,go_sem_proc,X7,aO,h2,h3,h4,h5,hm,hm21,hgt,hap,hand,hcv,fdivm,show ((20:Int)<0)=False from by simp,if_false,Yg,List.cons.injEq]
   repeat' (first|refine qS ?_ ?_|fail)<;>intro h<;>simp only[h,go_sem,go_sem_proc,X7,aO,h2,h3,h4,h5,hm,hm21,hgt,hap,hand,hcv,fdivm,show ((20:Int)<0)=False from by simp,if_false,Yg,List.cons.injEq]
   refine⟨(u / 1048576,g+1,l++[(u:Int) % 1048576]),by dsimp only;omega,by dsimp only;omega,by dsimp only;rw[Yt,hd,jX hup];rfl,by first | rfl | (dsimp only;rw[ke _ ⟨by omega,by omega⟩];rfl),by simp,by simp [go_sem]⟩
 ·have hw:IntKind.u64.wrap n=(n.natAbs:Int):=by rw[ke _ ⟨by omega,by omega⟩];omega
  simp only[go_sem,go_sem_proc,X7,aO,hpos,hw,decide_false];refine af [2,3] [150002] (fun ((u,g,l):Nat × Nat × List Int) tm mem=>u≤9223372036854775808∧dg n.natAbs=l++dg u∧tm 4 = .dat (.int .u64 u)∧tm 5 = .ref 150021 g 1 0 l.length∧mem 150021=some (g,ay aa l)) (fun (u,_)=>u) (n.natAbs,0,[]) (by refine⟨by omega,rfl,?_,rfl,rfl⟩;rfl) ?_;intro vs ms hvs hms;simp only[go_sem,go_sem_proc,X7,aO] at hvs hms;subst hvs hms;rintro⟨u,g,l⟩ tm mem hk hm ⟨hu,hd,h4,h5,hm21⟩;simp only[go_sem,go_sem_proc,X7,aO,List.cons.injEq] at hk hm;obtain⟨h2,h3⟩:=hk;rcases XQ u with h0 | hup
  ·subst h0
   rw[f8,Ym] at hd;rw[hd] at hs hlen;have hlen':l.length≤1000000:=by omega
   have hs':=hs 1 (fun _=>by exact (Ye (by omega)).symm);simp only[go_sem,go_sem_proc,X7,aO,h2,h3,h4,h5,hm,hm21,hs',hlen',bF,Yo,Yp,Yg,show ¬ ((0:Int)>0) by omega,decide_false,cu bq,Yq]
   repeat' (first|refine qS ?_ ?_|fail)<;>intro h<;>simp only[h,go_sem,go_sem_proc,X7,aO,h2,h3,h4,h5,hm,hm21,hs',hlen',bF,Yo,Yp,Yg,show ¬ ((0:Int)>0) by omega,decide_false,cu bq,Yq]
  ·have hul:l.length≤60:=by
    have:=congrArg Yr hd;rw[Ys] at this;omega
   have hgt:decide ((u:Int)>0)=true:=decide_eq_true (by omega);have hap:∀ a:Int,jR 150021 g 1 l.length 8 1 [.dat (.int .i64 a)] (some (g,ay aa l))=_:=fun a=>dw bq gz 150021 g 8 l a rfl (by omega) (by omega)
   have hand:=wX u ⟨by omega,by omega⟩
   have hcv:IntKind.i64.wrap ((u:Int) % 1048576)=(u:Int) % 1048576:=al _ (by omega) (by omega);simp only[go_sem,go_sem_proc,X7,aO,h2,h3,h4,h5,hm,hm21,hgt,hap,hand,hcv,fdivm,show ((20:Int)<0)=False from by simp,if_false,Yg,List.cons.injEq]
   repeat' (first|refine qS ?_ ?_|fail)<;>intro h<;>simp only[h,go_sem,go_sem_proc,X7,aO,h2,h3,h4,h5,hm,hm21,hgt,hap,hand,hcv,fdivm,show ((20:Int)<0)=False from by simp,if_false,Yg,List.cons.injEq]
   refine⟨(u / 1048576,g+1,l++[(u:Int) % 1048576]),by dsimp only;omega,by dsimp only;omega,by dsimp only;rw[Yt,hd,jX hup];rfl,by first | rfl | (dsimp only;rw[ke _ ⟨by omega,by omega⟩];rfl),by simp,by simp [go_sem]⟩
theorem xl (k:IntKind) (a b:Int):bits .or k a b=bits .or k b a:=by
 simp only[bits,BitVec.or_comm]
theorem ON (u d:Int) (i:Nat) (hi:(2:Int)^i≤1152921504606846976) (hu:0≤u∧u<2^i) (hd:0≤d) (h:d*2^i<18446744073709551616):bits .or .u64 u (d*2^i)=u+d*2^i:=by
 rw[xl,Int.add_comm];have h0:0≤d*2^i:=Yu hd (by exact Yv (Yw (by omega)));refine bits_join .u64 64 (by decide) (fun n h1 h2=>ke n ⟨h1,by omega⟩) i _ _ h0 (Int.mul_emod_left _ _) (by omega) hu.1 hu.2 (by omega)
instance (n:Int):Decidable (cn n):=by unfold cn;exact inferInstance
def qq (a:Raw):Int × Bool:=if aJ a=true∧cn (gP a) then (gP a,true) else (0,false)
noncomputable def uk:List Data→Option PRes:=FF (α:=Int × (List Int)) (fun (s,l)=>([.agg [.int .i64 s,.sl (l.map aa)]]:List Data)) (fun (s,l)=>aI (l.length≤1000000) (.same (.tup [.int .i64 (qq (s,l)).1,.bool (qq (s,l)).2])))
theorem yK:∀ a b:Int × (List Int),(fun (s,l)=>([.agg [.int .i64 s,.sl (l.map aa)]]:List Data)) a=(fun (s,l)=>([.agg [.int .i64 s,.sl (l.map aa)]]:List Data)) b→a=b:=by
  rintro⟨s1,l1⟩ ⟨s2,l2⟩ h;simp only[List.cons.injEq,Data.agg.injEq,Data.int.injEq,Data.sl.injEq] at h;exact X6 h.1.1.2 (ah ak _ _ h.1.2.1)
@[go_sem] theorem Nr (s:Int) (l:List Int) (hc:l.length≤1000000):uk [.agg [.int .i64 s,.sl (l.map aa)]]=some (.same (.tup [.int .i64 (qq (s,l)).1,.bool (qq (s,l)).2])):=(aZ yK (s,l)).trans (ap hc _)
theorem H5 (T:Tab) (an:T bb=mkE ej) (s:Int) (l:List Int) (hc:l.length≤1000000) :
  wp T mf_big_Int.body (bG mf_big_Int.res (.same (.tup [.int .i64 (qq (s,l)).1,.bool (qq (s,l)).2]))) ⟨az [.dat (.agg [.int .i64 s,.sl (l.map aa)])],emp⟩:=by
 refine aq ?_;simp only[mf_big_Int]
 by_cases hr:aJ (s,l)=true
 ·obtain⟨z,hz,e⟩:=(bm _).1 hr
  cases e
  have hi:qq (z.sign,dg z.natAbs)=if cn z then (z,true) else (0,false):=by
   unfold qq;rw[hr,show gP (z.sign,dg z.natAbs)=z from aU z];simp
  rw[hi];clear hi;have hs:=cD z
  by_cases h4:(dg z.natAbs).length≤4
  ·have h4':decide (((dg z.natAbs).length:Int)>4)=false:=decide_eq_false (by omega)
   have hvl:=f9 z.natAbs;have hD:=eI z.natAbs;generalize dg z.natAbs=l at *;simp only[go_sem,go_sem_proc,X7,an,hr,hc,h4',Yg,aa];refine af [1,17,18] [159001] (fun ((i,u):Nat × Int) tm mem=>i≤l.length∧u=vl (l.take i)∧u<18446744073709551616∧tm 4 = .dat (.int .u64 u)∧tm 19 = .dat (.int .i64 i)) (fun (i,_)=>l.length-i) (0,0) (by refine⟨by omega,rfl,by omega,rfl,rfl⟩) ?_;intro vs ms hvs hms;simp only[go_sem,go_sem_proc,X7,an] at hvs hms;subst hvs hms;rintro⟨i,u⟩ tm mem hk hm ⟨hi,hu,hu64,ht4,ht19⟩;simp only[go_sem,go_sem_proc,X7,an,List.cons.injEq] at hk hm;obtain⟨h1,h17,h18⟩:=hk;have hDt:isD (l.take i):=fun d hd=>hD d (List.mem_of_mem_take hd)
   have hu0:0≤u:=by rw[hu];exact cP hDt
   rcases Yl (i<l.length) with hlt | hge
   ·have hx:=List.getElem?_eq_getElem hlt
    have hd:=hD l[i] (List.getElem_mem hlt);have hstep:=be l i hlt;have hub:=qe hDt;rw[List.length_take,Nat.min_eq_left (Yb hlt),←hu] at hub;rw[←hu] at hstep;generalize l[i]=d at *;have hltd:decide ((i:Int)<(l.length:Int))=true:=decide_eq_true (by omega);have hwd:IntKind.u64.wrap d=d:=ke d ⟨hd.1,by omega⟩
    have hw20:IntKind.i64.wrap (20*(i:Int))=((20*i:Nat):Int):=by rw[al _ (by omega) (by omega)];omega
    have hmin:min (20*i) 64=20*i:=by omega
    have hn0:(((20*i:Nat):Int)<0)=False:=eq_false (by omega);have hpow:(1048576:Int)^i=2^(20*i):=by rw[Int.pow_mul];rfl
    rw[hpow] at hub hstep
    have hpl:(2:Int)^(20*i)≤1152921504606846976:=by
     obtain rfl | rfl | rfl | rfl:i=0∨i=1∨i=2∨i=3:=by omega
     all_goals decide
    by_cases hbig:i=3∧d>8
    ·obtain⟨rfl,hd8⟩:=hbig
     have hd8':decide (d>8)=true:=decide_eq_true hd8;have h33:(((3:Nat):Int)==3)=true:=rfl
     have hni:¬ cn z:=by
      have htd:=i7 l 4;rw[hvl] at htd;have:0≤vl (l.drop 4):=cP fun d hd=>hD d (List.mem_of_mem_drop hd)
      have h5:=Yu (show (0:Int)≤1048576^(min 4 l.length) from Yv (Yw (by omega))) this;unfold cn;simp only[Yx,Nat.reduceAdd,Yy] at hstep;rw[hstep] at htd;omega
     rw[if_neg hni];simp only[go_sem,go_sem_proc,X7,an,h1,h17,h18,ht4,ht19,hm,hx,hd.1,hd.2,hltd,hwd,hd8',h33,Yg,Yz,List.cons.injEq,aa]
     repeat' (first|refine qS ?_ ?_|fail)<;>intro h<;>simp only[h,go_sem,go_sem_proc,X7,an,h1,h17,h18,ht4,ht19,hm,hx,hd.1,hd.2,hltd,hwd,hd8',h33,Yg,Yz,List.cons.injEq,aa]
    ·have hdb:d*2^(20*i)<18446744073709551616:=by
      obtain rfl | rfl | rfl | rfl:i=0∨i=1∨i=2∨i=3:=by omega
      all_goals simp
      all_goals omega
     have hor:=ON u d (20*i) hpl ⟨hu0,hub⟩ hd.1 hdb;have hdm:0≤d*2^(20*i):=Yu hd.1 (Yv (Yw (by omega)));have hwm:IntKind.u64.wrap (d*2^(20*i))=d*2^(20*i):=ke _ ⟨hdm,hdb⟩
     have hsum:u+d*2^(20*i)<18446744073709551616:=by
      clear hor hwm hdm hw20 hn0 hpow hpl hstep;obtain rfl | rfl | rfl | rfl:i=0∨i=1∨i=2∨i=3:=by omega
      all_goals simp only[Yx,Yy] at hub hdb ⊢
      all_goals omega
     by_cases h3:((i:Int)==3)=true
     ·have hd8:decide (d>8)=false:=decide_eq_false fun h=>hbig ⟨by simp at h3;omega,h⟩
      simp only[go_sem,go_sem_proc,X7,an,h1,h17,h18,ht4,ht19,hm,hx,hd.1,hd.2,hltd,hwd,h3,hd8,hw20,hn0,if_false,YA,hmin,hwm,hor,Yg,Yz,List.cons.injEq,aa]
      repeat' (first|refine qS ?_ ?_|fail)<;>intro h<;>simp only[h,go_sem,go_sem_proc,X7,an,h1,h17,h18,ht4,ht19,hm,hx,hd.1,hd.2,hltd,hwd,h3,hd8,hw20,hn0,if_false,YA,hmin,hwm,hor,Yg,Yz,List.cons.injEq,aa]
      exact⟨(i+1,u+d*2^(20*i)),by dsimp only;omega,by dsimp only;omega,by dsimp only;rw[hstep,YB],hsum,rfl,by rw[al _ (by omega) (by omega)];rfl⟩
     ·have h3:((i:Int)==3)=false:=by simpa using h3
      simp only[go_sem,go_sem_proc,X7,an,h1,h17,h18,ht4,ht19,hm,hx,hd.1,hd.2,hltd,hwd,h3,hw20,hn0,if_false,YA,hmin,hwm,hor,Yg,Yz,List.cons.injEq,aa]
      repeat' (first|refine qS ?_ ?_|fail)<;>intro h<;>simp only[h,go_sem,go_sem_proc,X7,an,h1,h17,h18,ht4,ht19,hm,hx,hd.1,hd.2,hltd,hwd,h3,hw20,hn0,if_false,YA,hmin,hwm,hor,Yg,Yz,List.cons.injEq,aa]
      exact⟨(i+1,u+d*2^(20*i)),by dsimp only;omega,by dsimp only;omega,by dsimp only;rw[hstep,YB],hsum,rfl,by rw[al _ (by omega) (by omega)];rfl⟩
   ·have hltd:decide ((i:Int)<(l.length:Int))=false:=decide_eq_false (by omega)
    have hil:i=l.length:=by omega
    rw[hil,Yq,hvl] at hu;rcases hs with ⟨hs,hz0⟩ | ⟨hs,hz0⟩ | ⟨hs,hz0⟩
    ·by_cases hr64:u<9223372036854775808
     ·rw[if_pos (by unfold cn;omega)]
      have hw:IntKind.i64.wrap u=z:=by rw[al u (by omega) (by omega)];omega
      simp only[go_sem,go_sem_proc,X7,an,h1,h17,h18,ht4,ht19,hm,hltd,hs,hr64,show decide ((1:Int)<0)=false from rfl,show decide ((1:Int)≥0)=true from rfl,show decide ((-1:Int)<0)=true from rfl,show decide ((-1:Int)≥0)=false from rfl,hw,decide_true,decide_false,Yg]
      repeat' (first|refine qS ?_ ?_|fail)<;>intro h<;>simp only[h,go_sem,go_sem_proc,X7,an,h1,h17,h18,ht4,ht19,hm,hltd,hs,hr64,show decide ((1:Int)<0)=false from rfl,show decide ((1:Int)≥0)=true from rfl,show decide ((-1:Int)<0)=true from rfl,show decide ((-1:Int)≥0)=false from rfl,hw,decide_true,decide_false,Yg]
     ·rw[if_neg (by unfold cn;omega)]
      simp only[go_sem,go_sem_proc,X7,an,h1,h17,h18,ht4,ht19,hm,hltd,hs,hr64,show decide ((1:Int)<0)=false from rfl,show decide ((1:Int)≥0)=true from rfl,show decide ((-1:Int)<0)=true from rfl,show decide ((-1:Int)≥0)=false from rfl,decide_true,decide_false,Yg]
      repeat' (first|refine qS ?_ ?_|fail)<;>intro h<;>simp only[h,go_sem,go_sem_proc,X7,an,h1,h17,h18,ht4,ht19,hm,hltd,hs,hr64,show decide ((1:Int)<0)=false from rfl,show decide ((1:Int)≥0)=true from rfl,show decide ((-1:Int)<0)=true from rfl,show decide ((-1:Int)≥0)=false from rfl,decide_true,decide_false,Yg]
    ·rw[if_pos (by unfold cn;omega)]
     have hu0':u=0:=by omega
     subst hz0;subst hu0';simp only[go_sem,go_sem_proc,X7,an,h1,h17,h18,ht4,ht19,hm,hltd,hs,show decide ((0:Int)<0)=false from rfl,show decide ((0:Int)≥0)=true from rfl,show decide ((0:Int)<9223372036854775808)=true from rfl,show IntKind.i64.wrap 0=0 from rfl,show (0:Int).sign=0 from rfl,decide_true,decide_false,Yg]
     repeat' (first|refine qS ?_ ?_|fail)<;>intro h<;>simp only[h,go_sem,go_sem_proc,X7,an,h1,h17,h18,ht4,ht19,hm,hltd,hs,show decide ((0:Int)<0)=false from rfl,show decide ((0:Int)≥0)=true from rfl,show decide ((0:Int)<9223372036854775808)=true from rfl,show IntKind.i64.wrap 0=0 from rfl,show (0:Int).sign=0 from rfl,decide_true,decide_false,Yg]
    ·by_cases hr64:u≤9223372036854775808
     ·rw[if_pos (by unfold cn;omega)]
      have hw:=rI (0-u) (by omega) (by omega)
      have hw2:IntKind.i64.wrap (0-u+18446744073709551616)=z:=by
       simp [IntKind.wrap,IntKind.bits,IntKind.signed];omega
      simp only[go_sem,go_sem_proc,X7,an,h1,h17,h18,ht4,ht19,hm,hltd,hs,hr64,show decide ((1:Int)<0)=false from rfl,show decide ((1:Int)≥0)=true from rfl,show decide ((-1:Int)<0)=true from rfl,show decide ((-1:Int)≥0)=false from rfl,hw,hw2,decide_true,decide_false,Yg]
      repeat' (first|refine qS ?_ ?_|fail)<;>intro h<;>simp only[h,go_sem,go_sem_proc,X7,an,h1,h17,h18,ht4,ht19,hm,hltd,hs,hr64,show decide ((1:Int)<0)=false from rfl,show decide ((1:Int)≥0)=true from rfl,show decide ((-1:Int)<0)=true from rfl,show decide ((-1:Int)≥0)=false from rfl,hw,hw2,decide_true,decide_false,Yg]
     ·rw[if_neg (by unfold cn;omega)]
      simp only[go_sem,go_sem_proc,X7,an,h1,h17,h18,ht4,ht19,hm,hltd,hs,hr64,show decide ((1:Int)<0)=false from rfl,show decide ((1:Int)≥0)=true from rfl,show decide ((-1:Int)<0)=true from rfl,show decide ((-1:Int)≥0)=false from rfl,decide_true,decide_false,Yg]
      repeat' (first|refine qS ?_ ?_|fail)<;>intro h<;>simp only[h,go_sem,go_sem_proc,X7,an,h1,h17,h18,ht4,ht19,hm,hltd,hs,hr64,show decide ((1:Int)<0)=false from rfl,show decide ((1:Int)≥0)=true from rfl,show decide ((-1:Int)<0)=true from rfl,show decide ((-1:Int)≥0)=false from rfl,decide_true,decide_false,Yg]
  ·have h4':decide (((dg z.natAbs).length:Int)>4)=true:=decide_eq_true (by omega)
   have hn:¬ cn z:=by
    intro h;unfold cn at h;refine h4 (dg_len.2 ?_);omega
   rw[if_neg hn];simp only[go_sem,go_sem_proc,X7,an,hr,hc,h4',Yg]
   repeat' (first|refine qS ?_ ?_|fail)<;>intro h<;>simp only[h,go_sem,go_sem_proc,X7,an,hr,hc,h4',Yg]
 ·have hr:aJ (s,l)=false:=by simpa using hr
  have hi:qq (s,l)=(0,false):=by unfold qq;rw[if_neg];rw[hr];simp
  rw[hi];simp only[go_sem,go_sem_proc,X7,an,hr,hc]
  repeat' (first|refine qS ?_ ?_|fail)<;>intro h<;>simp only[h,go_sem,go_sem_proc,X7,an,hr,hc]
def mf_frac_Right:MFunc :=
 { n:=35,np:=1,res:=[.t 2],body :=
 (.seq (.ops [
 Zk 1 116001 0,Zb 2 false])
 (.seq (.seq (.ops [
 Zf 5 0 1,Zu 6 2 5,⟨some 7,none,.call bb [(.t 6)]⟩,Zt 8 7,Zv 9 8,⟨some 10,some (9,false),.fad 2 (.t 1)⟩,⟨some 11,some (9,false),.load 2 true (.t 10)⟩,⟨some 12,some (9,false),.call bb [(.t 11)]⟩,⟨some 13,some (9,false),.un .not (.t 12)⟩,Zp 14 9 13,Zv 15 14,⟨some 16,some (15,false),.fad 2 (.t 1)⟩,⟨some 17,some (15,false),.fad 0 (.t 16)⟩,⟨some 18,some (15,false),.load 1 false (.t 17)⟩,⟨some 19,some (15,false),.bin .neq (.t 18) (.c (ZI 1))⟩,Zp 20 15 19])
 (.cond (.t 20)
 (.seq (.ops [
 Zb 2 false])
 .ret)
 .skip))
 (.seq (.ops [
 Zf 22 0 1,Zu 23 2 22,Zf 24 2 1,Zu 25 2 24,⟨some 26,none,.call kN [(.t 23),(.t 25)]⟩,Zv 21 26,Zx 27 0 21,Zx 28 1 21,⟨some 3,none,.alloc 116003 [(ZI 0),.nil]⟩,Zs 2 3 27,Zv 4 28])
 (.seq (.ops [
 Zv 29 4,Zc 30 .eql 29 0,Zv 31 30,⟨some 32,some (31,true),.load 2 true (.t 3)⟩,⟨some 33,some (31,true),.call nD [(.t 32)]⟩,Zq 34 31 33,Zv 2 34])
 .ret)))) }
def mf_frac_Add:MFunc :=
 { n:=46,np:=2,res:=[.cell 4 4 true,.t 5],body :=
 (.seq (.ops [
 Zk 2 119002 0,Zk 3 119003 1,⟨some 4,none,.alloc 119004 [(ZI 0),.nil,(ZI 0),.nil]⟩,Zi 5 0])
 (.seq (.seq (.ops [
 Zu 10 4 2,⟨some 11,none,.call aY [(.t 10)]⟩,Zt 12 11,Zv 13 12,⟨some 14,some (13,false),.load 4 true (.t 3)⟩,⟨some 15,some (13,false),.call aY [(.t 14)]⟩,⟨some 16,some (13,false),.un .not (.t 15)⟩,Zp 17 13 16])
 (.cond (.t 17)
 (.seq (.ops [
 ⟨some 18,none,.build [(ZI 0),.nil,(ZI 0),.nil] []⟩,Zs 4 4 18,Zi 5 1])
 .ret)
 .skip))
 (.seq (.ops [
 Zf 20 0 2,Zu 21 2 20,Zf 22 2 3,Zu 23 2 22,Zf 24 0 3,Zu 25 2 24,Zf 26 2 2,Zu 27 2 26,⟨some 28,none,.call nG [(.t 21),(.t 23),(.t 25),(.t 27)]⟩,Zv 19 28,Zx 29 0 19,Zx 30 1 19,⟨some 6,none,.alloc 119006 [(ZI 0),.nil]⟩,Zs 2 6 29,Zv 7 30])
 (.seq (.ops [
 Zf 32 2 2,Zu 33 2 32,Zf 34 2 3,Zu 35 2 34,⟨some 36,none,.call dO [(.t 33),(.t 35)]⟩,Zv 31 36,Zx 37 0 31,Zx 38 1 31,⟨some 8,none,.alloc 119008 [(ZI 0),.nil]⟩,Zs 2 8 37,Zv 9 38])
 (.seq (.ops [
 Zu 39 2 6,Zv 40 7,Zu 41 2 8,Zv 42 9,⟨some 43,none,.call dy [(.t 39),(.t 40),(.t 41),(.t 42)]⟩,Zx 44 0 43,Zx 45 1 43,Zs 4 4 44,Zv 5 45])
 .ret))))) }
def mf_frac_Of:MFunc :=
 { n:=13,np:=2,res:=[.cell 4 4 true,.t 5],body :=
 (.seq (.ops [
 ⟨some 4,none,.alloc 130004 [(ZI 0),.nil,(ZI 0),.nil]⟩,Zi 5 0])
 (.seq (.ops [
 Zv 6 0,⟨some 7,none,.call oy [(.t 6)]⟩,Zv 8 1,⟨some 9,none,.call oy [(.t 8)]⟩,⟨some 10,none,.call jH [(.t 7),(.t 9)]⟩,Zx 11 0 10,Zx 12 1 10,Zs 4 4 11,Zv 5 12])
 .ret)) }
def mf_frac_Sub:MFunc :=
 { n:=25,np:=2,res:=[.cell 4 4 true,.t 5],body :=
 (.seq (.ops [
 Zk 2 132002 0,Zk 3 132003 1,⟨some 4,none,.alloc 132004 [(ZI 0),.nil,(ZI 0),.nil]⟩,Zi 5 0])
 (.seq (.seq (.ops [
 Zu 6 4 2,⟨some 7,none,.call aY [(.t 6)]⟩,Zt 8 7,Zv 9 8,⟨some 10,some (9,false),.load 4 true (.t 3)⟩,⟨some 11,some (9,false),.call aY [(.t 10)]⟩,⟨some 12,some (9,false),.un .not (.t 11)⟩,Zp 13 9 12])
 (.cond (.t 13)
 (.seq (.ops [
 ⟨some 14,none,.build [(ZI 0),.nil,(ZI 0),.nil] []⟩,Zs 4 4 14,Zi 5 1])
 .ret)
 .skip))
 (.seq (.opsD [
 Zu 15 4 2,Zf 16 0 3,Zu 17 2 16,⟨some 18,none,.call ji [(.t 17)]⟩,Zf 19 2 3,Zu 20 2 19,⟨some 21,none,.build [(ZI 0),.nil,(ZI 0),.nil] [(0,2,(.t 18)),(2,2,(.t 20))]⟩,⟨some 22,none,.call dp [(.t 15),(.t 21)]⟩,Zx 23 0 22,Zx 24 1 22,Zs 4 4 23,Zv 5 24] [[],[],[],[],[],[],[],[],[],[],[],[]])
 .ret))) }
def mf_frac_Mul:MFunc :=
 { n:=42,np:=2,res:=[.cell 4 4 true,.t 5],body :=
 (.seq (.ops [
 Zk 2 134002 0,Zk 3 134003 1,⟨some 4,none,.alloc 134004 [(ZI 0),.nil,(ZI 0),.nil]⟩,Zi 5 0])
 (.seq (.seq (.ops [
 Zu 10 4 2,⟨some 11,none,.call aY [(.t 10)]⟩,Zt 12 11,Zv 13 12,⟨some 14,some (13,false),.load 4 true (.t 3)⟩,⟨some 15,some (13,false),.call aY [(.t 14)]⟩,⟨some 16,some (13,false),.un .not (.t 15)⟩,Zp 17 13 16])
 (.cond (.t 17)
 (.seq (.ops [
 ⟨some 18,none,.build [(ZI 0),.nil,(ZI 0),.nil] []⟩,Zs 4 4 18,Zi 5 1])
 .ret)
 .skip))
 (.seq (.ops [
 Zf 20 0 2,Zu 21 2 20,Zf 22 0 3,Zu 23 2 22,⟨some 24,none,.call dO [(.t 21),(.t 23)]⟩,Zv 19 24,Zx 25 0 19,Zx 26 1 19,⟨some 6,none,.alloc 134006 [(ZI 0),.nil]⟩,Zs 2 6 25,Zv 7 26])
 (.seq (.ops [
 Zf 28 2 2,Zu 29 2 28,Zf 30 2 3,Zu 31 2 30,⟨some 32,none,.call dO [(.t 29),(.t 31)]⟩,Zv 27 32,Zx 33 0 27,Zx 34 1 27,⟨some 8,none,.alloc 134008 [(ZI 0),.nil]⟩,Zs 2 8 33,Zv 9 34])
 (.seq (.ops [
 Zu 35 2 6,Zv 36 7,Zu 37 2 8,Zv 38 9,⟨some 39,none,.call dy [(.t 35),(.t 36),(.t 37),(.t 38)]⟩,Zx 40 0 39,Zx 41 1 39,Zs 4 4 40,Zv 5 41])
 .ret))))) }
def mf_frac_Compare:MFunc :=
 { n:=78,np:=2,res:=[.t 4],body :=
 (.seq (.ops [
 Zk 2 135002 0,Zk 3 135003 1,Zi 4 0])
 (.seq (.seq (.ops [
 Zu 17 4 2,⟨some 18,none,.call aY [(.t 17)]⟩,Zt 19 18,Zv 20 19,⟨some 21,some (20,false),.load 4 true (.t 3)⟩,⟨some 22,some (20,false),.call aY [(.t 21)]⟩,⟨some 23,some (20,false),.un .not (.t 22)⟩,Zp 24 20 23])
 (.cond (.t 24)
 (.seq (.ops [
 Zi 4 0])
 .ret)
 .skip))
 (.seq (.opsD [
 Zf 25 0 2,Zu 26 2 25,Zf 27 2 2,Zu 28 2 27,Zf 29 0 3,Zu 30 2 29,Zf 31 2 3,Zu 32 2 31,⟨some 5,none,.alloc 135005 [(ZI 0),.nil]⟩,⟨some 6,none,.alloc 135006 [(ZI 0),.nil]⟩,⟨some 7,none,.alloc 135007 [(ZI 0),.nil]⟩,⟨some 8,none,.alloc 135008 [(ZI 0),.nil]⟩,Zs 2 5 26,Zs 2 6 28,Zs 2 7 30,Zs 2 8 32] [[],[],[],[],[],[],[],[],[1,3,5,7],[1,3,5,7,8],[1,3,5,7,8,9],[1,3,5,7,8,9,10],[3,5,7],[5,7],[7],[]])
 (.seq (.ops [
 Zi 9 1])
 (.block 0
 (.loop
 (.seq (.block 1
 (.seq (.ops [
 Zu 36 2 5,Zu 37 2 6,⟨some 38,none,.call iw [(.t 36),(.t 37)]⟩,Zv 35 38,Zx 39 0 35,Zx 40 1 35,Zx 41 2 35,⟨some 10,none,.alloc 135010 [(ZI 0),.nil]⟩,⟨some 11,none,.alloc 135011 [(ZI 0),.nil]⟩,Zs 2 10 39,Zs 2 11 40,Zv 12 41])
 (.seq (.ops [
 Zu 43 2 7,Zu 44 2 8,⟨some 45,none,.call iw [(.t 43),(.t 44)]⟩,Zv 42 45,Zx 46 0 42,Zx 47 1 42,Zx 48 2 42,⟨some 13,none,.alloc 135013 [(ZI 0),.nil]⟩,⟨some 14,none,.alloc 135014 [(ZI 0),.nil]⟩,Zs 2 13 46,Zs 2 14 47,Zv 15 48])
 (.seq (.seq (.ops [
 Zu 49 2 10,Zu 50 2 13,⟨some 51,none,.call kP [(.t 49),(.t 50)]⟩,Zv 16 51])
 (.block 2
 (.seq (.ops [
 Zv 53 16,Zc 54 .neq 53 0,Zv 52 54])
 (.cond (.t 52)
 (.seq (.ops [
 Zv 55 9,Zv 56 16,Zo 57 .mul 55 56,Zv 4 57])
 .ret)
 (.seq (.ops [
 Zf 59 0 11,Zl 60 1 59,Zc 61 .eql 60 0,Zv 62 61,⟨some 63,some (62,false),.fad 0 (.t 14)⟩,⟨some 64,some (62,false),.load 1 false (.t 63)⟩,⟨some 65,some (62,false),.bin .eql (.t 64) (.c (ZI 0))⟩,Zp 66 62 65,Zv 58 66])
 (.cond (.t 58)
 (.seq (.ops [
 Zv 67 9,Zf 68 0 11,Zl 69 1 68,Zf 70 0 14,Zl 71 1 70,Zo 72 .sub 69 71,Zo 73 .mul 67 72,Zv 4 73])
 .ret)
 .skip))))))
 (.opsD [
 Zu 74 2 6,Zu 75 2 11,Zu 76 2 8,Zu 77 2 14,Zs 2 5 74,Zs 2 6 75,Zs 2 7 76,Zs 2 8 77] [[],[],[],[],[1,2,3],[2,3],[3],[]])))))
 (.ops [
 Zv 33 9,⟨some 34,none,.un .neg (.t 33)⟩,Zv 9 34])))))))) }
def mf_frac_one:MFunc :=
 { n:=15,np:=1,res:=[.t 2],body :=
 (.seq (.ops [
 Zk 1 138001 0,Zb 2 false])
 (.seq (.ops [
 Zu 6 2 1,⟨some 7,none,.call po [(.t 6)]⟩,Zv 5 7,Zx 8 0 5,Zx 9 1 5,Zv 3 8,Zv 4 9])
 (.seq (.ops [
 Zv 10 4,Zv 11 10,⟨some 12,some (11,true),.mv (.t 3)⟩,⟨some 13,some (11,true),.bin .eql (.t 12) (.c (ZI 1))⟩,Zq 14 11 13,Zv 2 14])
 .ret))) }
def mf_frac_sum:MFunc :=
 { n:=38,np:=4,res:=[.cell 8 2 true,.t 9],body :=
 (.seq (.ops [
 Zk 4 139004 0,Zk 5 139005 1,Zk 6 139006 2,Zk 7 139007 3,⟨some 8,none,.alloc 139008 [(ZI 0),.nil]⟩,Zi 9 0])
 (.seq (.ops [
 Zu 14 2 4,Zu 15 2 5,⟨some 16,none,.call dO [(.t 14),(.t 15)]⟩,Zv 13 16,Zx 17 0 13,Zx 18 1 13,⟨some 10,none,.alloc 139010 [(ZI 0),.nil]⟩,Zs 2 10 17,Zv 11 18])
 (.seq (.seq (.ops [
 Zv 19 11,Zc 20 .neq 19 0])
 (.cond (.t 20)
 (.seq (.ops [
 ⟨some 21,none,.build [(ZI 0),.nil] []⟩,Zv 22 11,Zs 2 8 21,Zv 9 22])
 .ret)
 .skip))
 (.seq (.ops [
 Zu 24 2 6,Zu 25 2 7,⟨some 26,none,.call dO [(.t 24),(.t 25)]⟩,Zv 23 26,Zx 27 0 23,Zx 28 1 23,⟨some 12,none,.alloc 139012 [(ZI 0),.nil]⟩,Zs 2 12 27,Zv 11 28])
 (.seq (.seq (.ops [
 Zv 29 11,Zc 30 .neq 29 0])
 (.cond (.t 30)
 (.seq (.ops [
 ⟨some 31,none,.build [(ZI 0),.nil] []⟩,Zv 32 11,Zs 2 8 31,Zv 9 32])
 .ret)
 .skip))
 (.seq (.ops [
 Zu 33 2 10,Zu 34 2 12,⟨some 35,none,.call ph [(.t 33),(.t 34)]⟩,Zx 36 0 35,Zx 37 1 35,Zs 2 8 36,Zv 9 37])
 .ret)))))) }
def mf_frac_quotient:MFunc :=
 { n:=22,np:=4,res:=[.cell 8 4 true,.t 9],body :=
 (.seq (.ops [
 Zk 4 141004 0,Zk 6 141006 2,⟨some 8,none,.alloc 141008 [(ZI 0),.nil,(ZI 0),.nil]⟩,Zi 9 0])
 (.seq (.seq (.ops [
 Zv 10 1,Zc 11 .neq 10 0,Zv 12 11,⟨some 13,some (12,false),.mv (.t 3)⟩,⟨some 14,some (12,false),.bin .neq (.t 13) (.c (ZI 0))⟩,Zp 15 12 14])
 (.cond (.t 15)
 (.seq (.ops [
 ⟨some 16,none,.build [(ZI 0),.nil,(ZI 0),.nil] []⟩,Zs 4 8 16,Zi 9 6])
 .ret)
 .skip))
 (.seq (.ops [
 Zu 17 2 4,Zu 18 2 6,⟨some 19,none,.call jH [(.t 17),(.t 18)]⟩,Zx 20 0 19,Zx 21 1 19,Zs 4 8 20,Zv 9 21])
 .ret))) }
def mf_frac_New:MFunc :=
 { n:=60,np:=2,res:=[.cell 4 4 true,.t 5],body :=
 (.seq (.ops [
 Zk 2 149002 0,Zk 3 149003 1,⟨some 4,none,.alloc 149004 [(ZI 0),.nil,(ZI 0),.nil]⟩,Zi 5 0])
 (.seq (.block 0
 (.seq (.ops [
 Zu 15 2 2,⟨some 16,none,.call bb [(.t 15)]⟩,Zt 17 16,Zv 18 17,⟨some 19,some (18,false),.load 2 true (.t 3)⟩,⟨some 20,some (18,false),.call bb [(.t 19)]⟩,⟨some 21,some (18,false),.un .not (.t 20)⟩,Zp 22 18 21,Zv 14 22])
 (.cond (.t 14)
 (.seq (.ops [
 ⟨some 23,none,.build [(ZI 0),.nil,(ZI 0),.nil] []⟩,Zs 4 4 23,Zi 5 1])
 .ret)
 (.seq (.ops [
 Zf 25 0 3,Zl 26 1 25,Zc 27 .eql 26 0,Zv 24 27])
 (.cond (.t 24)
 (.seq (.ops [
 ⟨some 28,none,.build [(ZI 0),.nil,(ZI 0),.nil] []⟩,Zs 4 4 28,Zi 5 15])
 .ret)
 (.seq (.ops [
 Zf 30 0 3,Zl 31 1 30,Zc 32 .lss 31 0,Zv 29 32])
 (.cond (.t 29)
 (.opsD [
 Zu 33 2 2,⟨some 34,none,.call ji [(.t 33)]⟩,Zu 35 2 3,⟨some 36,none,.call ji [(.t 35)]⟩,Zs 2 2 34,Zs 2 3 36] [[],[],[],[],[],[]])
 .skip)))))))
 (.seq (.ops [
 Zu 38 2 2,Zu 39 2 3,⟨some 40,none,.call kN [(.t 38),(.t 39)]⟩,Zv 37 40,Zx 41 0 37,Zx 42 1 37,⟨some 6,none,.alloc 149006 [(ZI 0),.nil]⟩,Zs 2 6 41,Zv 7 42])
 (.seq (.ops [
 Zu 44 2 2,Zu 45 2 6,⟨some 46,none,.call iw [(.t 44),(.t 45)]⟩,Zv 43 46,Zx 47 0 43,Zx 48 1 43,Zx 49 2 43,⟨some 8,none,.alloc 149008 [(ZI 0),.nil]⟩,⟨some 9,none,.alloc 149009 [(ZI 0),.nil]⟩,Zs 2 8 47,Zs 2 9 48,Zv 10 49])
 (.seq (.ops [
 Zu 51 2 3,Zu 52 2 6,⟨some 53,none,.call iw [(.t 51),(.t 52)]⟩,Zv 50 53,Zx 54 0 50,Zx 55 1 50,Zx 56 2 50,⟨some 11,none,.alloc 149011 [(ZI 0),.nil]⟩,⟨some 12,none,.alloc 149012 [(ZI 0),.nil]⟩,Zs 2 11 54,Zs 2 12 55,Zv 13 56])
 (.seq (.ops [
 Zu 57 2 8,Zu 58 2 11,⟨some 59,none,.build [(ZI 0),.nil,(ZI 0),.nil] [(0,2,(.t 57)),(2,2,(.t 58))]⟩,Zs 4 4 59,Zi 5 0])
 .ret)))))) }
def mf_frac_Div:MFunc :=
 { n:=49,np:=2,res:=[.cell 4 4 true,.t 5],body :=
 (.seq (.ops [
 Zk 2 169002 0,Zk 3 169003 1,⟨some 4,none,.alloc 169004 [(ZI 0),.nil,(ZI 0),.nil]⟩,Zi 5 0])
 (.seq (.block 0
 (.seq (.ops [
 Zu 11 4 2,⟨some 12,none,.call aY [(.t 11)]⟩,Zt 13 12,Zv 14 13,⟨some 15,some (14,false),.load 4 true (.t 3)⟩,⟨some 16,some (14,false),.call aY [(.t 15)]⟩,⟨some 17,some (14,false),.un .not (.t 16)⟩,Zp 18 14 17,Zv 10 18])
 (.cond (.t 10)
 (.seq (.ops [
 ⟨some 19,none,.build [(ZI 0),.nil,(ZI 0),.nil] []⟩,Zs 4 4 19,Zi 5 1])
 .ret)
 (.seq (.ops [
 Zf 21 0 3,Zf 22 0 21,Zl 23 1 22,Zc 24 .eql 23 0,Zv 20 24])
 (.cond (.t 20)
 (.seq (.ops [
 ⟨some 25,none,.build [(ZI 0),.nil,(ZI 0),.nil] []⟩,Zs 4 4 25,Zi 5 15])
 .ret)
 .skip)))))
 (.seq (.ops [
 Zf 27 0 2,Zu 28 2 27,Zf 29 2 3,Zu 30 2 29,⟨some 31,none,.call dO [(.t 28),(.t 30)]⟩,Zv 26 31,Zx 32 0 26,Zx 33 1 26,⟨some 6,none,.alloc 169006 [(ZI 0),.nil]⟩,Zs 2 6 32,Zv 7 33])
 (.seq (.ops [
 Zf 35 2 2,Zu 36 2 35,Zf 37 0 3,Zu 38 2 37,⟨some 39,none,.call dO [(.t 36),(.t 38)]⟩,Zv 34 39,Zx 40 0 34,Zx 41 1 34,⟨some 8,none,.alloc 169008 [(ZI 0),.nil]⟩,Zs 2 8 40,Zv 9 41])
 (.seq (.ops [
 Zu 42 2 6,Zv 43 7,Zu 44 2 8,Zv 45 9,⟨some 46,none,.call dy [(.t 42),(.t 43),(.t 44),(.t 45)]⟩,Zx 47 0 46,Zx 48 1 46,Zs 4 4 47,Zv 5 48])
 .ret))))) }
abbrev aM:=Raw × Raw
def ae (f:aM):List Data:=[.int .i64 f.1.1,.sl (f.1.2.map aa),.int .i64 f.2.1,.sl (f.2.2.map aa)]
def bB (x:aM × Int):Data:=.tup [.agg (ae x.1),.int .i64 x.2]
def aj (x:Rat):aM:=(aR x.num,aR x.den)
def cm (x:Rat):Prop:=x.num.natAbs<LIM∧x.den<LIM
def cb:aM:=((0,[]),(0,[]))
def bh (f:aM):Bool:=aJ f.1&&(aJ f.2&&(f.2.1==1&&(YC (gP f.1).natAbs (gP f.2).natAbs==1)))
def pC (f:aM):Rat:=YD (gP f.1) (gP f.2)
theorem kG (x:Rat):pC (aj x)=x:=by
 unfold pC aj;rw[aU,aU,YE]
theorem AE {x y:Rat} (h:aj x=aj y):x=y:=by rw[←kG x,h,kG]
theorem den_pos (x:Rat):0<(x.den:Int):=Int.natCast_pos.2 x.den_pos
theorem HG {n:Int} (h:0<n):(aR n).1=1:=Ye h
theorem kE (f:aM):bh f=true↔∃ x,cm x∧f=aj x:=by
 unfold bh;simp only[YF,beq_iff_eq]
 constructor
 ·rintro⟨h1,h2,h3,h4⟩
  obtain⟨p,hp,e1⟩:=(bm _).1 h1;obtain⟨q,hq,e2⟩:=(bm _).1 h2;obtain⟨f1,f2⟩:=f;simp only at e1 e2 h3 h4;subst e1 e2;rw[aU,aU] at h4
  have hqp:0<q:=by
   rcases cD q with ⟨_,h⟩ | ⟨e,_⟩ | ⟨e,_⟩
   ·exact h
   ·have:q.sign=1:=h3;omega
   ·have:q.sign=1:=h3;omega
  refine⟨⟨p,q.natAbs,by omega,h4⟩,⟨hp,hq⟩,?_⟩
  unfold aj;rw[show ((q.natAbs:Nat):Int)=q by omega]
 ·rintro⟨x,⟨h1,h2⟩,rfl⟩
  have hd:(x.den:Int).natAbs<LIM:=by rw[X5];exact h2
  refine⟨bK h1,bK hd,HG (den_pos x),?_⟩;unfold aj;rw[aU,aU,X5];exact x.reduced
theorem eU {x:Rat} (h:cm x):bh (aj x)=true:=(kE _).2 ⟨x,h,rfl⟩
theorem tY {x:Rat} (h:cm x):(x.den:Int).natAbs<LIM:=by rw[X5];exact h.2
theorem eX {z:Int} (h:z.natAbs<LIM):(dg z.natAbs).length≤1000000:=by have:=fF h;omega
def CB (a:Raw):Bool:=(qq a).2&&((qq a).1==1)
theorem KE {z:Int} (h:z.natAbs<LIM):CB (aR z)=decide (z=1):=by
 unfold CB qq;rw[bK h,aU]
 by_cases hi:cn z
 ·rw[if_pos ⟨rfl,hi⟩]
  simp only[YG]
  rfl
 ·rw[if_neg fun h=>hi h.2]
  have:z≠1:=by rintro rfl;exact hi (by unfold cn;omega)
  simp [this]
noncomputable def C2:List Data→Option PRes:=FF (α:=Int × (List Int)) (fun (s,l)=>([.agg [.int .i64 s,.sl (l.map aa)]]:List Data)) (fun (s,l)=>aI (l.length≤1000000) (.same (.bool (CB (s,l)))))
theorem C0:∀ a b:Int × (List Int),(fun (s,l)=>([.agg [.int .i64 s,.sl (l.map aa)]]:List Data)) a=(fun (s,l)=>([.agg [.int .i64 s,.sl (l.map aa)]]:List Data)) b→a=b:=by
  rintro⟨s1,l1⟩ ⟨s2,l2⟩ h;simp only[List.cons.injEq,Data.agg.injEq,Data.int.injEq,Data.sl.injEq] at h;exact X6 h.1.1.2 (ah ak _ _ h.1.2.1)
@[go_sem] theorem Pk (s:Int) (l:List Int) (hc:l.length≤1000000):C2 [.agg [.int .i64 s,.sl (l.map aa)]]=some (.same (.bool (CB (s,l)))):=(aZ C0 (s,l)).trans (ap hc _)
theorem On (T:Tab) (pT:T po=mkE uk) (s:Int) (l:List Int) (hc:l.length≤1000000) :
  wp T mf_frac_one.body (bG mf_frac_one.res (.same (.bool (CB (s,l))))) ⟨az [.dat (.agg [.int .i64 s,.sl (l.map aa)])],emp⟩:=by
 refine aq ?_;simp only[mf_frac_one];unfold CB;rcases h:(qq (s,l)).2
 ·simp only[go_sem,go_sem_proc,X7,pT,hc,h]
  repeat' (first|refine qS ?_ ?_|fail)<;>intro h<;>simp only[h,go_sem,go_sem_proc,X7,pT,hc,h]
 ·simp only[go_sem,go_sem_proc,X7,pT,hc,h]
  repeat' (first|refine qS ?_ ?_|fail)<;>intro h<;>simp only[h,go_sem,go_sem_proc,X7,pT,hc,h]
noncomputable def fQ:List Data→Option PRes:=FF (α:=Int × (List Int) × Int × (List Int)) (fun (s,l,s2,l2)=>([.agg [.int .i64 s,.sl (l.map aa),.int .i64 s2,.sl (l2.map aa)]]:List Data)) (fun (s,l,s2,l2)=>aI (l.length≤1000000∧l2.length≤1000000) (.same (.bool (bh ((s,l),(s2,l2))))))
theorem y0:∀ a b:Int × (List Int) × Int × (List Int),(fun (s,l,s2,l2)=>([.agg [.int .i64 s,.sl (l.map aa),.int .i64 s2,.sl (l2.map aa)]]:List Data)) a=(fun (s,l,s2,l2)=>([.agg [.int .i64 s,.sl (l.map aa),.int .i64 s2,.sl (l2.map aa)]]:List Data)) b→a=b:=by
  rintro⟨s1,l1,s21,l21⟩ ⟨s2,l2,s22,l22⟩ h;simp only[List.cons.injEq,Data.agg.injEq,Data.int.injEq,Data.sl.injEq] at h;exact X6 h.1.1.2 (X6 (ah ak _ _ h.1.2.1) (X6 h.1.2.2.1.2 (ah ak _ _ h.1.2.2.2.1)))
@[go_sem] theorem Bb (s:Int) (l:List Int) (s2:Int) (l2:List Int) (hc:l.length≤1000000∧l2.length≤1000000):fQ [.agg [.int .i64 s,.sl (l.map aa),.int .i64 s2,.sl (l2.map aa)]]=some (.same (.bool (bh ((s,l),(s2,l2))))):=(aZ y0 (s,l,s2,l2)).trans (ap hc _)
theorem I4 (T:Tab) (an:T bb=mkE ej) (oS:T kN=mkE Et) (xB:T nD=mkE C2) (s:Int) (l:List Int) (s2:Int) (l2:List Int) (hc:l.length≤1000000∧l2.length≤1000000) :
  wp T mf_frac_Right.body (bG mf_frac_Right.res (.same (.bool (bh ((s,l),(s2,l2)))))) ⟨az [.dat (.agg [.int .i64 s,.sl (l.map aa),.int .i64 s2,.sl (l2.map aa)])],emp⟩:=by
 refine aq ?_;simp only[mf_frac_Right];obtain⟨hl1,hl2⟩:=hc
 by_cases hr:aJ (s,l)=true
 ·by_cases hr2:aJ (s2,l2)=true
  ·by_cases hs:s2=1
   ·obtain⟨x,hx,e⟩:=(bm _).1 hr
    obtain⟨y,hy,e2⟩:=(bm _).1 hr2
    have hg:kp (s,l) (s2,l2)=(aR ((YC x.natAbs y.natAbs:Nat):Int),0):=by
     unfold kp;rw[hr,hr2,e,e2,aU,aU];rfl
    have hgl:=pK hx hy
    have ho:CB (aR ((YC x.natAbs y.natAbs:Nat):Int))=(YC x.natAbs y.natAbs==1):=by
     rw[KE (by rw[X5];exact hgl)];rw[Bool.eq_iff_iff];simp;omega
    have hv1:gP (s,l)=x:=by rw[e,aU]
    have hv2:gP (s2,l2)=y:=by rw[e2,aU]
    have hR:bh ((s,l),(s2,l2))=(YC x.natAbs y.natAbs==1):=by
     show (aJ (s,l)&&(aJ (s2,l2)&&((s2==1)&&(YC (gP (s,l)).natAbs (gP (s2,l2)).natAbs==1))))=_;rw[hr,hr2,hv1,hv2,show (s2==1)=true by simpa using hs]
     simp only[YG]
    have hgl2:((aR ((YC x.natAbs y.natAbs:Nat):Int)).2).length≤1000000:=eX (by rw[X5];exact hgl);rw[hR,←ho];generalize aR ((YC x.natAbs y.natAbs:Nat):Int)=G at *;obtain⟨g1,g2⟩:=G;have hs':(s2==1)=true:=by simpa using hs
    refine qI ?_
    repeat' (intro h<;>simp only[h,go_sem,go_sem_proc,X7,an,oS,xB,hr,hr2,hl1,hl2,hs',hg,hgl2,dR,bF,show ((0:Int)==0)=true from rfl]<;>try refine qS ?_ ?_)
   ·have hR:bh ((s,l),(s2,l2))=false:=by unfold bh;simp [hs]
    have hs':(s2==1)=false:=by simpa using hs
    rw[hR];refine qI ?_
    repeat' (intro h<;>simp only[h,go_sem,go_sem_proc,X7,an,oS,xB,hr,hr2,hl1,hl2,hs']<;>try refine qS ?_ ?_)
  ·have hr2:aJ (s2,l2)=false:=by simpa using hr2
   have hR:bh ((s,l),(s2,l2))=false:=by unfold bh;simp [hr2]
   rw[hR];refine qI ?_
   repeat' (intro h<;>simp only[h,go_sem,go_sem_proc,X7,an,oS,xB,hr,hr2,hl1,hl2]<;>try refine qS ?_ ?_)
 ·have hr:aJ (s,l)=false:=by simpa using hr
  have hR:bh ((s,l),(s2,l2))=false:=by unfold bh;simp [hr]
  rw[hR];refine qI ?_
  repeat' (intro h<;>simp only[h,go_sem,go_sem_proc,X7,an,oS,xB,hr,hl1,hl2]<;>try refine qS ?_ ?_)
def fR (p q:Raw):aM × Int :=
 if (aJ p&&aJ q)=true then (if gP q=0 then (cb,15) else (aj (YD (gP p) (gP q)),0)) else (cb,1)
theorem iT {p q:Int} (hp:p.natAbs<LIM) (hq:q.natAbs<LIM) (h0:q≠0):fR (aR p) (aR q)=(aj (YD p q),0):=by
 unfold fR;rw[bK hp,bK hq,aU,aU,if_pos (by rfl),if_neg h0]
theorem mR {p q:Int} (hq:0<q):(YD p q).num=p.fdiv ((YC p.natAbs q.natAbs:Nat):Int)∧((YD p q).den:Int)=q.fdiv ((YC p.natAbs q.natAbs:Nat):Int):=by
 rw[Rat.num_divInt,Rat.den_divInt,if_neg (by omega),Ye hq,XX];have hg:q.gcd p=YC p.natAbs q.natAbs:=by rw[Int.gcd_comm];rfl
 rw[hg];have h0:(0:Int)≤((YC p.natAbs q.natAbs:Nat):Int):=Int.natCast_nonneg _;rw[YH _ h0,YH _ h0];refine⟨rfl,?_⟩;rw[Int.natCast_ediv]
 congr 1
 omega
theorem uG {p q:Int} (hq:q≠0):0<YC p.natAbs q.natAbs:=Nat.gcd_pos_of_pos_right _ (by omega)
theorem mL {p q:Int} (hp:p.natAbs<LIM) (hq:q.natAbs<LIM):cm (YD p q):=by
 have main:∀ {p q:Int},p.natAbs<LIM→q.natAbs<LIM→0<q→cm (YD p q):=by
  intro p q hp hq h0;obtain⟨h1,h2⟩:=mR (p:=p) h0;have hg:=uG (p:=p) (q:=q) (by omega);refine⟨?_,?_⟩
  ·rw[h1];exact lY hp (by omega)
  ·have:=lY (y:=((YC p.natAbs q.natAbs:Nat):Int)) hq (by omega)
   rw[←h2,X5] at this;exact this
 rcases YI q 0 with h | h | h
 ·rw[←YJ]
  exact main (by omega) (by omega) (by omega)
 ·subst h
  rw[Rat.divInt_zero];unfold cm LIM;exact⟨Nat.pow_pos (by omega),Nat.one_lt_pow (by omega) (by omega)⟩
 ·exact main hp hq h
noncomputable def ym:List Data→Option PRes:=FF (α:=Int × (List Int) × Int × (List Int)) (fun (s,l,s2,l2)=>([.agg [.int .i64 s,.sl (l.map aa)],.agg [.int .i64 s2,.sl (l2.map aa)]]:List Data)) (fun (s,l,s2,l2)=>aI (l.length≤1000000∧l2.length≤1000000) (.same (bB (fR (s,l) (s2,l2)))))
theorem Ct:∀ a b:Int × (List Int) × Int × (List Int),(fun (s,l,s2,l2)=>([.agg [.int .i64 s,.sl (l.map aa)],.agg [.int .i64 s2,.sl (l2.map aa)]]:List Data)) a=(fun (s,l,s2,l2)=>([.agg [.int .i64 s,.sl (l.map aa)],.agg [.int .i64 s2,.sl (l2.map aa)]]:List Data)) b→a=b:=by
  rintro⟨s1,l1,s21,l21⟩ ⟨s2,l2,s22,l22⟩ h;simp only[List.cons.injEq,Data.agg.injEq,Data.int.injEq,Data.sl.injEq] at h;exact X6 h.1.1.2 (X6 (ah ak _ _ h.1.2.1) (X6 h.2.1.1.2 (ah ak _ _ h.2.1.2.1)))
@[go_sem] theorem Pm (s:Int) (l:List Int) (s2:Int) (l2:List Int) (hc:l.length≤1000000∧l2.length≤1000000):ym [.agg [.int .i64 s,.sl (l.map aa)],.agg [.int .i64 s2,.sl (l2.map aa)]]=some (.same (bB (fR (s,l) (s2,l2)))):=(aZ Ct (s,l,s2,l2)).trans (ap hc _)
theorem Ol (T:Tab) (an:T bb=mkE ej) (qx:T ji=mkE Ed) (oS:T kN=mkE Et) (j0:T iw=mkE D8) (s:Int) (l:List Int) (s2:Int) (l2:List Int) (hc:l.length≤1000000∧l2.length≤1000000) :
  wp T mf_frac_New.body (bG mf_frac_New.res (.same (bB (fR (s,l) (s2,l2))))) ⟨az [.dat (.agg [.int .i64 s,.sl (l.map aa)]),.dat (.agg [.int .i64 s2,.sl (l2.map aa)])],emp⟩:=by
 refine aq ?_;simp only[mf_frac_New];obtain⟨hl1,hl2⟩:=hc
 by_cases hr:aJ (s,l)=true
 ·by_cases hr2:aJ (s2,l2)=true
  ·obtain⟨x,hx,e⟩:=(bm _).1 hr
   obtain⟨y,hy,e2⟩:=(bm _).1 hr2
   by_cases h0:y=0
   ·have hm:fR (s,l) (s2,l2)=(cb,15):=by
     unfold fR;rw[hr,hr2,e2,aU,if_pos (by rfl),if_pos h0]
    rw[hm]
    cases e
    cases e2;have hs:(y.sign==0)=true:=by rw[h0];rfl
    refine qI ?_
    repeat' (intro h<;>simp only[h,go_sem,go_sem_proc,X7,an,qx,oS,j0,hr,hr2,hl1,hl2,hs,bB,ae,cb,X8]<;>try refine qS ?_ ?_)
   ·have main:∀ p q:Int,p.natAbs<LIM→q.natAbs<LIM→0<q→∃ g:Raw,kp (aR p) (aR q)=(g,0)∧g.2.length≤1000000∧je (aR p) g=(aR (YD p q).num,aR (p.fmod ((YC p.natAbs q.natAbs:Nat):Int)),0)∧je (aR q) g=(aR (YD p q).den,aR (q.fmod ((YC p.natAbs q.natAbs:Nat):Int)),0):=by
     intro p q hp hq hq0;have hgl:=pK hp hq;have hgl':((YC p.natAbs q.natAbs:Nat):Int).natAbs<LIM:=by rw[X5];exact hgl
     have hg0:=uG (p:=p) (q:=q) (by omega);obtain⟨h1,h2⟩:=mR (p:=p) hq0;refine⟨aR ((YC p.natAbs q.natAbs:Nat):Int),?_,eX hgl',?_,?_⟩
     ·unfold kp;rw[bK hp,bK hq,aU,aU];rfl
     ·rw[kA hp hgl' (by omega),h1]
     ·rw[kA hq hgl' (by omega),h2]
    have hs0:(y.sign==0)=false:=by simpa using h0
    rcases Int.lt_or_gt_of_ne h0 with hneg | hpos
    ·have hs1:decide (y.sign<0)=true:=by rw[Yn hneg];rfl
     obtain⟨⟨g1,g2⟩,hg,hgl,hd1,hd2⟩:=main (-x) (-y) (by omega) (by omega) (by omega)
     have hm:fR (s,l) (s2,l2)=(aj (YD (-x) (-y)),0):=by
      rw[e,e2,iT hx hy h0,YJ]
     rw[hm];have hn1:iO (s,l)=aR (-x):=by unfold iO;rw[if_pos hr,e,aU]
     have hn2:iO (s2,l2)=aR (-y):=by unfold iO;rw[if_pos hr2,e2,aU]
     have hy1:s2=y.sign:=congrArg YK e2;have hl3:(aR (-x)).2.length≤1000000:=eX (by omega);have hl4:(aR (-y)).2.length≤1000000:=eX (by omega);clear e e2;unfold aj;generalize aR (-x)=X at *;generalize aR (-y)=Y at *;obtain⟨x1,x2⟩:=X;obtain⟨y1,y2⟩:=Y;rw[←hy1] at hs0 hs1;refine qI ?_
     repeat' (intro h<;>simp only[h,go_sem,go_sem_proc,X7,an,qx,oS,j0,hr,hr2,hl1,hl2,hs0,hs1,hn1,hn2,hl3,hl4,hg,hgl,hd1,hd2,bB,ae,dR,dj,bF]<;>try refine qS ?_ ?_)
    ·have hs1:decide (y.sign<0)=false:=by rw[Ye hpos];rfl
     obtain⟨⟨g1,g2⟩,hg,hgl,hd1,hd2⟩:=main x y hx hy hpos
     have hm:fR (s,l) (s2,l2)=(aj (YD x y),0):=by
      rw[e,e2,iT hx hy h0]
     rw[hm];have hy1:s2=y.sign:=congrArg YK e2;rw[←e] at hg hd1;rw[←e2] at hg hd2;rw[←hy1] at hs0 hs1;unfold aj;refine qI ?_
     repeat' (intro h<;>simp only[h,go_sem,go_sem_proc,X7,an,qx,oS,j0,hr,hr2,hl1,hl2,hs0,hs1,hg,hgl,hd1,hd2,bB,ae,dR,dj,bF]<;>try refine qS ?_ ?_)
  ·have hr2:aJ (s2,l2)=false:=by simpa using hr2
   have hm:fR (s,l) (s2,l2)=(cb,1):=by unfold fR;rw[hr2,Yi];rfl
   rw[hm];refine qI ?_
   repeat' (intro h<;>simp only[h,go_sem,go_sem_proc,X7,an,qx,oS,j0,hr,hr2,hl1,hl2,bB,ae,cb,X8]<;>try refine qS ?_ ?_)
 ·have hr:aJ (s,l)=false:=by simpa using hr
  have hm:fR (s,l) (s2,l2)=(cb,1):=by unfold fR;rw[hr,Yj];rfl
  rw[hm];refine qI ?_
  repeat' (intro h<;>simp only[h,go_sem,go_sem_proc,X7,an,qx,oS,j0,hr,hl1,hl2,bB,ae,cb,X8]<;>try refine qS ?_ ?_)
noncomputable def zz:List Data→Option PRes:=FF (α:=Int × Int) (fun (p,q)=>([.int .i64 p,.int .i64 q]:List Data)) (fun (p,q)=>aI (cn p∧cn q) (.same (bB (fR (aR p) (aR q)))))
theorem GD:∀ a b:Int × Int,(fun (p,q)=>([.int .i64 p,.int .i64 q]:List Data)) a=(fun (p,q)=>([.int .i64 p,.int .i64 q]:List Data)) b→a=b:=by
  rintro⟨p1,q1⟩ ⟨p2,q2⟩ h;simp only[List.cons.injEq,Data.int.injEq,Data.agg.injEq,Data.sl.injEq,Data.bool.injEq,Data.str.injEq,Data.ptr.injEq,Data.tup.injEq,Prod.mk.injEq,true_and,and_true] at h ⊢
  first | exact h | simpa [Yk,and_assoc] using h | grind
@[go_sem] theorem Hr (p:Int) (q:Int) (hc:cn p∧cn q):zz [.int .i64 p,.int .i64 q]=some (.same (bB (fR (aR p) (aR q)))):=(aZ GD (p,q)).trans (ap hc _)
theorem P9 (T:Tab) (KZ:T oy=mkE xy) (uf:T jH=mkE ym) (p:Int) (q:Int) (hc:cn p∧cn q) :
  wp T mf_frac_Of.body (bG mf_frac_Of.res (.same (bB (fR (aR p) (aR q))))) ⟨az [.dat (.int .i64 p),.dat (.int .i64 q)],emp⟩:=by
 refine aq ?_;simp only[mf_frac_Of];obtain⟨h1,h2⟩:=hc;have l1:(aR p).2.length≤1000000:=eX (jy h1);have l2:(aR q).2.length≤1000000:=eX (jy h2);generalize hP:aR p=P at *;generalize hQ:aR q=Q at *;obtain⟨x1,x2⟩:=P;obtain⟨y1,y2⟩:=Q;refine qI ?_
 repeat' (intro h<;>simp only[h,go_sem,go_sem_proc,X7,KZ,uf,h1,h2,hP,hQ,l1,l2,bF,bB,ae]<;>try refine qS ?_ ?_)
def s8 (a b c d:Raw):Raw × Int :=
 if ((gj a b).2==0)=true then (if ((gj c d).2==0)=true then pN (gj a b).1 (gj c d).1 else ((0,[]),(gj c d).2)) else ((0,[]),(gj a b).2)
theorem wR (z:Int):(li z).1.2.length≤1000000:=by
 unfold li
 split
 ·exact eX (by assumption)
 ·simp
theorem kQ (a b:Raw):(gj a b).1.2.length≤1000000:=by
 unfold gj
 split
 ·exact wR _
 ·simp
theorem Js (a b:Raw):(pN a b).1.2.length≤1000000:=by
 unfold pN
 split
 ·exact wR _
 ·simp
theorem Je (a b c d:Raw):(s8 a b c d).1.2.length≤1000000:=by
 unfold s8
 split
 ·split
  ·exact Js _ _
  ·simp
 ·simp
noncomputable def Dv:List Data→Option PRes:=FF (α:=Int × (List Int) × Int × (List Int) × Int × (List Int) × Int × (List Int)) (fun (s,l,s2,l2,s3,l3,s4,l4)=>([.agg [.int .i64 s,.sl (l.map aa)],.agg [.int .i64 s2,.sl (l2.map aa)],.agg [.int .i64 s3,.sl (l3.map aa)],.agg [.int .i64 s4,.sl (l4.map aa)]]:List Data)) (fun (s,l,s2,l2,s3,l3,s4,l4)=>aI (l.length≤1000000∧l2.length≤1000000∧l3.length≤1000000∧l4.length≤1000000) (.same (dR (s8 (s,l) (s2,l2) (s3,l3) (s4,l4)))))
theorem Dk:∀ a b:Int × (List Int) × Int × (List Int) × Int × (List Int) × Int × (List Int),(fun (s,l,s2,l2,s3,l3,s4,l4)=>([.agg [.int .i64 s,.sl (l.map aa)],.agg [.int .i64 s2,.sl (l2.map aa)],.agg [.int .i64 s3,.sl (l3.map aa)],.agg [.int .i64 s4,.sl (l4.map aa)]]:List Data)) a=(fun (s,l,s2,l2,s3,l3,s4,l4)=>([.agg [.int .i64 s,.sl (l.map aa)],.agg [.int .i64 s2,.sl (l2.map aa)],.agg [.int .i64 s3,.sl (l3.map aa)],.agg [.int .i64 s4,.sl (l4.map aa)]]:List Data)) b→a=b:=by
  rintro⟨s1,l1,s21,l21,s31,l31,s41,l41⟩ ⟨s2,l2,s22,l22,s32,l32,s42,l42⟩ h;simp only[List.cons.injEq,Data.agg.injEq,Data.int.injEq,Data.sl.injEq] at h;exact X6 h.1.1.2 (X6 (ah ak _ _ h.1.2.1) (X6 h.2.1.1.2 (X6 (ah ak _ _ h.2.1.2.1) (X6 h.2.2.1.1.2 (X6 (ah ak _ _ h.2.2.1.2.1) (X6 h.2.2.2.1.1.2 (ah ak _ _ h.2.2.2.1.2.1)))))))
@[go_sem] theorem PX (s:Int) (l:List Int) (s2:Int) (l2:List Int) (s3:Int) (l3:List Int) (s4:Int) (l4:List Int) (hc:l.length≤1000000∧l2.length≤1000000∧l3.length≤1000000∧l4.length≤1000000):Dv [.agg [.int .i64 s,.sl (l.map aa)],.agg [.int .i64 s2,.sl (l2.map aa)],.agg [.int .i64 s3,.sl (l3.map aa)],.agg [.int .i64 s4,.sl (l4.map aa)]]=some (.same (dR (s8 (s,l) (s2,l2) (s3,l3) (s4,l4)))):=(aZ Dk (s,l,s2,l2,s3,l3,s4,l4)).trans (ap hc _)
theorem OP (T:Tab) (kd:T dO=mkE vL) (H2:T ph=mkE JD) (s:Int) (l:List Int) (s2:Int) (l2:List Int) (s3:Int) (l3:List Int) (s4:Int) (l4:List Int) (hc:l.length≤1000000∧l2.length≤1000000∧l3.length≤1000000∧l4.length≤1000000) :
  wp T mf_frac_sum.body (bG mf_frac_sum.res (.same (dR (s8 (s,l) (s2,l2) (s3,l3) (s4,l4))))) ⟨az [.dat (.agg [.int .i64 s,.sl (l.map aa)]),.dat (.agg [.int .i64 s2,.sl (l2.map aa)]),.dat (.agg [.int .i64 s3,.sl (l3.map aa)]),.dat (.agg [.int .i64 s4,.sl (l4.map aa)])],emp⟩:=by
 refine aq ?_;simp only[mf_frac_sum];obtain⟨hl1,hl2,hl3,hl4⟩:=hc;have m1:=kQ (s,l) (s2,l2);have m2:=kQ (s3,l3) (s4,l4);unfold s8;generalize hM1:gj (s,l) (s2,l2)=M1 at *;generalize hM2:gj (s3,l3) (s4,l4)=M2 at *;obtain⟨⟨a1,a2⟩,e1⟩:=M1;obtain⟨⟨b1,b2⟩,e2⟩:=M2;rcases h1:(e1==0)
 ·refine qI ?_
  repeat' (intro h<;>simp only[h,go_sem,go_sem_proc,X7,kd,H2,hl1,hl2,hl3,hl4,hM1,h1,m1,m2,dR,bF,X8]<;>try refine qS ?_ ?_)
 ·have z1:e1=0:=by simpa using h1
  subst z1;rcases h2:(e2==0)
  ·refine qI ?_
   repeat' (intro h<;>simp only[h,go_sem,go_sem_proc,X7,kd,H2,hl1,hl2,hl3,hl4,hM1,hM2,h1,h2,m1,m2,dR,bF,X8]<;>try refine qS ?_ ?_)
  ·have z2:e2=0:=by simpa using h2
   subst z2;refine qI ?_
   repeat' (intro h<;>simp only[h,go_sem,go_sem_proc,X7,kd,H2,hl1,hl2,hl3,hl4,hM1,hM2,h1,m1,m2,dR,bF,X8]<;>try refine qS ?_ ?_)
def nl (p:Raw × Int) (q:Raw × Int):aM × Int:=if (p.2==0)=true then (if (q.2==0)=true then fR p.1 q.1 else (cb,6)) else (cb,6)
noncomputable def pS:List Data→Option PRes:=FF (α:=Int × (List Int) × Int × Int × (List Int) × Int) (fun (s,l,e,s2,l2,e2)=>([.agg [.int .i64 s,.sl (l.map aa)],.int .i64 e,.agg [.int .i64 s2,.sl (l2.map aa)],.int .i64 e2]:List Data)) (fun (s,l,e,s2,l2,e2)=>aI (l.length≤1000000∧l2.length≤1000000) (.same (bB (nl ((s,l),e) ((s2,l2),e2)))))
theorem zO:∀ a b:Int × (List Int) × Int × Int × (List Int) × Int,(fun (s,l,e,s2,l2,e2)=>([.agg [.int .i64 s,.sl (l.map aa)],.int .i64 e,.agg [.int .i64 s2,.sl (l2.map aa)],.int .i64 e2]:List Data)) a=(fun (s,l,e,s2,l2,e2)=>([.agg [.int .i64 s,.sl (l.map aa)],.int .i64 e,.agg [.int .i64 s2,.sl (l2.map aa)],.int .i64 e2]:List Data)) b→a=b:=by
  rintro⟨s1,l1,e1,s21,l21,e21⟩ ⟨s2,l2,e2,s22,l22,e22⟩ h;simp only[List.cons.injEq,Data.agg.injEq,Data.int.injEq,Data.sl.injEq] at h;exact X6 h.1.1.2 (X6 (ah ak _ _ h.1.2.1) (X6 h.2.1.2 (X6 h.2.2.1.1.2 (X6 (ah ak _ _ h.2.2.1.2.1) h.2.2.2.1.2))))
@[go_sem] theorem NG (s:Int) (l:List Int) (e:Int) (s2:Int) (l2:List Int) (e2:Int) (hc:l.length≤1000000∧l2.length≤1000000):pS [.agg [.int .i64 s,.sl (l.map aa)],.int .i64 e,.agg [.int .i64 s2,.sl (l2.map aa)],.int .i64 e2]=some (.same (bB (nl ((s,l),e) ((s2,l2),e2)))):=(aZ zO (s,l,e,s2,l2,e2)).trans (ap hc _)
theorem Lo (T:Tab) (uf:T jH=mkE ym) (s:Int) (l:List Int) (e:Int) (s2:Int) (l2:List Int) (e2:Int) (hc:l.length≤1000000∧l2.length≤1000000) :
  wp T mf_frac_quotient.body (bG mf_frac_quotient.res (.same (bB (nl ((s,l),e) ((s2,l2),e2))))) ⟨az [.dat (.agg [.int .i64 s,.sl (l.map aa)]),.dat (.int .i64 e),.dat (.agg [.int .i64 s2,.sl (l2.map aa)]),.dat (.int .i64 e2)],emp⟩:=by
 refine aq ?_;simp only[mf_frac_quotient];obtain⟨hl1,hl2⟩:=hc;unfold nl;rcases h1:(e==0)
 ·refine qI ?_
  repeat' (intro h<;>simp only[h,go_sem,go_sem_proc,X7,uf,hl1,hl2,h1,bB,ae,cb,X8]<;>try refine qS ?_ ?_)
 ·have z1:e=0:=by simpa using h1
  subst z1;rcases h2:(e2==0)
  ·refine qI ?_
   repeat' (intro h<;>simp only[h,go_sem,go_sem_proc,X7,uf,hl1,hl2,h1,h2,bB,ae,cb,X8]<;>try refine qS ?_ ?_)
  ·have z2:e2=0:=by simpa using h2
   subst z2;refine qI ?_
   repeat' (intro h<;>simp only[h,go_sem,go_sem_proc,X7,uf,hl1,hl2,h1,bB,ae,cb,X8]<;>try refine qS ?_ ?_)
def sG (a b:aM):aM × Int:=if bh a=true then (if bh b=true then nl (s8 a.1 b.2 b.1 a.2) (gj a.2 b.2) else (cb,1)) else (cb,1)
def nt (a b:aM):aM × Int:=if bh a=true then (if bh b=true then sG a (iO b.1,b.2) else (cb,1)) else (cb,1)
def mg (a b:aM):aM × Int:=if bh a=true then (if bh b=true then nl (gj a.1 b.1) (gj a.2 b.2) else (cb,1)) else (cb,1)
def iY (a b:aM):aM × Int:=if bh a=true then (if bh b=true then (if (b.1.1==0)=true then (cb,15) else nl (gj a.1 b.2) (gj a.2 b.1)) else (cb,1)) else (cb,1)
theorem HD (a:Raw) (h:a.2.length≤1000000):(iO a).2.length≤1000000:=by
 unfold iO
 split
 ·rename_i hr
  obtain⟨z,hz,e⟩:=(bm _).1 hr;rw[e,aU];exact eX (by omega)
 ·simp
noncomputable def lP:List Data→Option PRes:=FF (α:=Int × (List Int) × Int × (List Int) × Int × (List Int) × Int × (List Int)) (fun (s,l,s2,l2,s3,l3,s4,l4)=>([.agg [.int .i64 s,.sl (l.map aa),.int .i64 s2,.sl (l2.map aa)],.agg [.int .i64 s3,.sl (l3.map aa),.int .i64 s4,.sl (l4.map aa)]]:List Data)) (fun (s,l,s2,l2,s3,l3,s4,l4)=>aI (l.length≤1000000∧l2.length≤1000000∧l3.length≤1000000∧l4.length≤1000000) (.same (bB (sG ((s,l),(s2,l2)) ((s3,l3),(s4,l4))))))
theorem Cv:∀ a b:Int × (List Int) × Int × (List Int) × Int × (List Int) × Int × (List Int),(fun (s,l,s2,l2,s3,l3,s4,l4)=>([.agg [.int .i64 s,.sl (l.map aa),.int .i64 s2,.sl (l2.map aa)],.agg [.int .i64 s3,.sl (l3.map aa),.int .i64 s4,.sl (l4.map aa)]]:List Data)) a=(fun (s,l,s2,l2,s3,l3,s4,l4)=>([.agg [.int .i64 s,.sl (l.map aa),.int .i64 s2,.sl (l2.map aa)],.agg [.int .i64 s3,.sl (l3.map aa),.int .i64 s4,.sl (l4.map aa)]]:List Data)) b→a=b:=by
  rintro⟨s1,l1,s21,l21,s31,l31,s41,l41⟩ ⟨s2,l2,s22,l22,s32,l32,s42,l42⟩ h;simp only[List.cons.injEq,Data.agg.injEq,Data.int.injEq,Data.sl.injEq] at h;exact X6 h.1.1.2 (X6 (ah ak _ _ h.1.2.1) (X6 h.1.2.2.1.2 (X6 (ah ak _ _ h.1.2.2.2.1) (X6 h.2.1.1.2 (X6 (ah ak _ _ h.2.1.2.1) (X6 h.2.1.2.2.1.2 (ah ak _ _ h.2.1.2.2.2.1)))))))
@[go_sem] theorem vF (s:Int) (l:List Int) (s2:Int) (l2:List Int) (s3:Int) (l3:List Int) (s4:Int) (l4:List Int) (hc:l.length≤1000000∧l2.length≤1000000∧l3.length≤1000000∧l4.length≤1000000):lP [.agg [.int .i64 s,.sl (l.map aa),.int .i64 s2,.sl (l2.map aa)],.agg [.int .i64 s3,.sl (l3.map aa),.int .i64 s4,.sl (l4.map aa)]]=some (.same (bB (sG ((s,l),(s2,l2)) ((s3,l3),(s4,l4))))):=(aZ Cv (s,l,s2,l2,s3,l3,s4,l4)).trans (ap hc _)
theorem NP (T:Tab) (aK:T aY=mkE fQ) (CR:T nG=mkE Dv) (kd:T dO=mkE vL) (io:T dy=mkE pS) (s:Int) (l:List Int) (s2:Int) (l2:List Int) (s3:Int) (l3:List Int) (s4:Int) (l4:List Int) (hc:l.length≤1000000∧l2.length≤1000000∧l3.length≤1000000∧l4.length≤1000000) :
  wp T mf_frac_Add.body (bG mf_frac_Add.res (.same (bB (sG ((s,l),(s2,l2)) ((s3,l3),(s4,l4)))))) ⟨az [.dat (.agg [.int .i64 s,.sl (l.map aa),.int .i64 s2,.sl (l2.map aa)]),.dat (.agg [.int .i64 s3,.sl (l3.map aa),.int .i64 s4,.sl (l4.map aa)])],emp⟩:=by
 refine aq ?_;simp only[mf_frac_Add];obtain⟨hl1,hl2,hl3,hl4⟩:=hc;unfold sG
 by_cases hr:bh ((s,l),(s2,l2))=true
 ·by_cases hr2:bh ((s3,l3),(s4,l4))=true
  ·have m1:=Je (s,l) (s4,l4) (s3,l3) (s2,l2)
   have m2:=kQ (s2,l2) (s4,l4);rw[if_pos hr,if_pos hr2];dsimp only;generalize hM1:s8 (s,l) (s4,l4) (s3,l3) (s2,l2)=M1 at *;generalize hM2:gj (s2,l2) (s4,l4)=M2 at *;obtain⟨⟨a1,a2⟩,e1⟩:=M1;obtain⟨⟨b1,b2⟩,e2⟩:=M2;refine qI ?_
   repeat' (intro h<;>simp only[h,go_sem,go_sem_proc,X7,aK,CR,kd,io,hl1,hl2,hl3,hl4,hr,hr2,hM1,hM2,m1,m2,dR,bF,bB,ae]<;>try refine qS ?_ ?_)
  ·have hr2:bh ((s3,l3),(s4,l4))=false:=by simpa using hr2
   rw[if_pos hr,if_neg (by simp [hr2])];refine qI ?_
   repeat' (intro h<;>simp only[h,go_sem,go_sem_proc,X7,aK,CR,kd,io,hl1,hl2,hl3,hl4,hr,hr2,bB,ae,cb,X8]<;>try refine qS ?_ ?_)
 ·have hr:bh ((s,l),(s2,l2))=false:=by simpa using hr
  rw[if_neg (by simp [hr])];refine qI ?_
  repeat' (intro h<;>simp only[h,go_sem,go_sem_proc,X7,aK,CR,kd,io,hl1,hl2,hl3,hl4,hr,bB,ae,cb,X8]<;>try refine qS ?_ ?_)
noncomputable def mI:List Data→Option PRes:=FF (α:=Int × (List Int) × Int × (List Int) × Int × (List Int) × Int × (List Int)) (fun (s,l,s2,l2,s3,l3,s4,l4)=>([.agg [.int .i64 s,.sl (l.map aa),.int .i64 s2,.sl (l2.map aa)],.agg [.int .i64 s3,.sl (l3.map aa),.int .i64 s4,.sl (l4.map aa)]]:List Data)) (fun (s,l,s2,l2,s3,l3,s4,l4)=>aI (l.length≤1000000∧l2.length≤1000000∧l3.length≤1000000∧l4.length≤1000000) (.same (bB (nt ((s,l),(s2,l2)) ((s3,l3),(s4,l4))))))
theorem Do:∀ a b:Int × (List Int) × Int × (List Int) × Int × (List Int) × Int × (List Int),(fun (s,l,s2,l2,s3,l3,s4,l4)=>([.agg [.int .i64 s,.sl (l.map aa),.int .i64 s2,.sl (l2.map aa)],.agg [.int .i64 s3,.sl (l3.map aa),.int .i64 s4,.sl (l4.map aa)]]:List Data)) a=(fun (s,l,s2,l2,s3,l3,s4,l4)=>([.agg [.int .i64 s,.sl (l.map aa),.int .i64 s2,.sl (l2.map aa)],.agg [.int .i64 s3,.sl (l3.map aa),.int .i64 s4,.sl (l4.map aa)]]:List Data)) b→a=b:=by
  rintro⟨s1,l1,s21,l21,s31,l31,s41,l41⟩ ⟨s2,l2,s22,l22,s32,l32,s42,l42⟩ h;simp only[List.cons.injEq,Data.agg.injEq,Data.int.injEq,Data.sl.injEq] at h;exact X6 h.1.1.2 (X6 (ah ak _ _ h.1.2.1) (X6 h.1.2.2.1.2 (X6 (ah ak _ _ h.1.2.2.2.1) (X6 h.2.1.1.2 (X6 (ah ak _ _ h.2.1.2.1) (X6 h.2.1.2.2.1.2 (ah ak _ _ h.2.1.2.2.2.1)))))))
@[go_sem] theorem Fo (s:Int) (l:List Int) (s2:Int) (l2:List Int) (s3:Int) (l3:List Int) (s4:Int) (l4:List Int) (hc:l.length≤1000000∧l2.length≤1000000∧l3.length≤1000000∧l4.length≤1000000):mI [.agg [.int .i64 s,.sl (l.map aa),.int .i64 s2,.sl (l2.map aa)],.agg [.int .i64 s3,.sl (l3.map aa),.int .i64 s4,.sl (l4.map aa)]]=some (.same (bB (nt ((s,l),(s2,l2)) ((s3,l3),(s4,l4))))):=(aZ Do (s,l,s2,l2,s3,l3,s4,l4)).trans (ap hc _)
theorem NK (T:Tab) (aK:T aY=mkE fQ) (qx:T ji=mkE Ed) (bI:T dp=mkE lP) (s:Int) (l:List Int) (s2:Int) (l2:List Int) (s3:Int) (l3:List Int) (s4:Int) (l4:List Int) (hc:l.length≤1000000∧l2.length≤1000000∧l3.length≤1000000∧l4.length≤1000000) :
  wp T mf_frac_Sub.body (bG mf_frac_Sub.res (.same (bB (nt ((s,l),(s2,l2)) ((s3,l3),(s4,l4)))))) ⟨az [.dat (.agg [.int .i64 s,.sl (l.map aa),.int .i64 s2,.sl (l2.map aa)]),.dat (.agg [.int .i64 s3,.sl (l3.map aa),.int .i64 s4,.sl (l4.map aa)])],emp⟩:=by
 refine aq ?_;simp only[mf_frac_Sub];obtain⟨hl1,hl2,hl3,hl4⟩:=hc;unfold nt
 by_cases hr:bh ((s,l),(s2,l2))=true
 ·by_cases hr2:bh ((s3,l3),(s4,l4))=true
  ·have m1:=HD (s3,l3) hl3
   rw[if_pos hr,if_pos hr2];dsimp only;generalize hM1:iO (s3,l3)=M1 at *;obtain⟨a1,a2⟩:=M1;refine qI ?_
   repeat' (intro h<;>simp only[h,go_sem,go_sem_proc,X7,aK,qx,bI,hl1,hl2,hl3,hl4,hr,hr2,hM1,m1,dR,bF,bB,ae]<;>try refine qS ?_ ?_)
  ·have hr2:bh ((s3,l3),(s4,l4))=false:=by simpa using hr2
   rw[if_pos hr,if_neg (by simp [hr2])];refine qI ?_
   repeat' (intro h<;>simp only[h,go_sem,go_sem_proc,X7,aK,qx,bI,hl1,hl2,hl3,hl4,hr,hr2,bB,ae,cb,X8]<;>try refine qS ?_ ?_)
 ·have hr:bh ((s,l),(s2,l2))=false:=by simpa using hr
  rw[if_neg (by simp [hr])];refine qI ?_
  repeat' (intro h<;>simp only[h,go_sem,go_sem_proc,X7,aK,qx,bI,hl1,hl2,hl3,hl4,hr,bB,ae,cb,X8]<;>try refine qS ?_ ?_)
noncomputable def lS:List Data→Option PRes:=FF (α:=Int × (List Int) × Int × (List Int) × Int × (List Int) × Int × (List Int)) (fun (s,l,s2,l2,s3,l3,s4,l4)=>([.agg [.int .i64 s,.sl (l.map aa),.int .i64 s2,.sl (l2.map aa)],.agg [.int .i64 s3,.sl (l3.map aa),.int .i64 s4,.sl (l4.map aa)]]:List Data)) (fun (s,l,s2,l2,s3,l3,s4,l4)=>aI (l.length≤1000000∧l2.length≤1000000∧l3.length≤1000000∧l4.length≤1000000) (.same (bB (mg ((s,l),(s2,l2)) ((s3,l3),(s4,l4))))))
theorem Di:∀ a b:Int × (List Int) × Int × (List Int) × Int × (List Int) × Int × (List Int),(fun (s,l,s2,l2,s3,l3,s4,l4)=>([.agg [.int .i64 s,.sl (l.map aa),.int .i64 s2,.sl (l2.map aa)],.agg [.int .i64 s3,.sl (l3.map aa),.int .i64 s4,.sl (l4.map aa)]]:List Data)) a=(fun (s,l,s2,l2,s3,l3,s4,l4)=>([.agg [.int .i64 s,.sl (l.map aa),.int .i64 s2,.sl (l2.map aa)],.agg [.int .i64 s3,.sl (l3.map aa),.int .i64 s4,.sl (l4.map aa)]]:List Data)) b→a=b:=by
  rintro⟨s1,l1,s21,l21,s31,l31,s41,l41⟩ ⟨s2,l2,s22,l22,s32,l32,s42,l42⟩ h;simp only[List.cons.injEq,Data.agg.injEq,Data.int.injEq,Data.sl.injEq] at h;exact X6 h.1.1.2 (X6 (ah ak _ _ h.1.2.1) (X6 h.1.2.2.1.2 (X6 (ah ak _ _ h.1.2.2.2.1) (X6 h.2.1.1.2 (X6 (ah ak _ _ h.2.1.2.1) (X6 h.2.1.2.2.1.2 (ah ak _ _ h.2.1.2.2.2.1)))))))
@[go_sem] theorem FU (s:Int) (l:List Int) (s2:Int) (l2:List Int) (s3:Int) (l3:List Int) (s4:Int) (l4:List Int) (hc:l.length≤1000000∧l2.length≤1000000∧l3.length≤1000000∧l4.length≤1000000):lS [.agg [.int .i64 s,.sl (l.map aa),.int .i64 s2,.sl (l2.map aa)],.agg [.int .i64 s3,.sl (l3.map aa),.int .i64 s4,.sl (l4.map aa)]]=some (.same (bB (mg ((s,l),(s2,l2)) ((s3,l3),(s4,l4))))):=(aZ Di (s,l,s2,l2,s3,l3,s4,l4)).trans (ap hc _)
theorem Oq (T:Tab) (aK:T aY=mkE fQ) (kd:T dO=mkE vL) (io:T dy=mkE pS) (s:Int) (l:List Int) (s2:Int) (l2:List Int) (s3:Int) (l3:List Int) (s4:Int) (l4:List Int) (hc:l.length≤1000000∧l2.length≤1000000∧l3.length≤1000000∧l4.length≤1000000) :
  wp T mf_frac_Mul.body (bG mf_frac_Mul.res (.same (bB (mg ((s,l),(s2,l2)) ((s3,l3),(s4,l4)))))) ⟨az [.dat (.agg [.int .i64 s,.sl (l.map aa),.int .i64 s2,.sl (l2.map aa)]),.dat (.agg [.int .i64 s3,.sl (l3.map aa),.int .i64 s4,.sl (l4.map aa)])],emp⟩:=by
 refine aq ?_;simp only[mf_frac_Mul];obtain⟨hl1,hl2,hl3,hl4⟩:=hc;unfold mg
 by_cases hr:bh ((s,l),(s2,l2))=true
 ·by_cases hr2:bh ((s3,l3),(s4,l4))=true
  ·have m1:=kQ (s,l) (s3,l3)
   have m2:=kQ (s2,l2) (s4,l4);rw[if_pos hr,if_pos hr2];dsimp only;generalize hM1:gj (s,l) (s3,l3)=M1 at *;generalize hM2:gj (s2,l2) (s4,l4)=M2 at *;obtain⟨⟨a1,a2⟩,e1⟩:=M1;obtain⟨⟨b1,b2⟩,e2⟩:=M2;refine qI ?_
   repeat' (intro h<;>simp only[h,go_sem,go_sem_proc,X7,aK,kd,io,hl1,hl2,hl3,hl4,hr,hr2,hM1,hM2,m1,m2,dR,bF,bB,ae]<;>try refine qS ?_ ?_)
  ·have hr2:bh ((s3,l3),(s4,l4))=false:=by simpa using hr2
   rw[if_pos hr,if_neg (by simp [hr2])];refine qI ?_
   repeat' (intro h<;>simp only[h,go_sem,go_sem_proc,X7,aK,kd,io,hl1,hl2,hl3,hl4,hr,hr2,bB,ae,cb,X8]<;>try refine qS ?_ ?_)
 ·have hr:bh ((s,l),(s2,l2))=false:=by simpa using hr
  rw[if_neg (by simp [hr])];refine qI ?_
  repeat' (intro h<;>simp only[h,go_sem,go_sem_proc,X7,aK,kd,io,hl1,hl2,hl3,hl4,hr,bB,ae,cb,X8]<;>try refine qS ?_ ?_)
noncomputable def px:List Data→Option PRes:=FF (α:=Int × (List Int) × Int × (List Int) × Int × (List Int) × Int × (List Int)) (fun (s,l,s2,l2,s3,l3,s4,l4)=>([.agg [.int .i64 s,.sl (l.map aa),.int .i64 s2,.sl (l2.map aa)],.agg [.int .i64 s3,.sl (l3.map aa),.int .i64 s4,.sl (l4.map aa)]]:List Data)) (fun (s,l,s2,l2,s3,l3,s4,l4)=>aI (l.length≤1000000∧l2.length≤1000000∧l3.length≤1000000∧l4.length≤1000000) (.same (bB (iY ((s,l),(s2,l2)) ((s3,l3),(s4,l4))))))
theorem CV:∀ a b:Int × (List Int) × Int × (List Int) × Int × (List Int) × Int × (List Int),(fun (s,l,s2,l2,s3,l3,s4,l4)=>([.agg [.int .i64 s,.sl (l.map aa),.int .i64 s2,.sl (l2.map aa)],.agg [.int .i64 s3,.sl (l3.map aa),.int .i64 s4,.sl (l4.map aa)]]:List Data)) a=(fun (s,l,s2,l2,s3,l3,s4,l4)=>([.agg [.int .i64 s,.sl (l.map aa),.int .i64 s2,.sl (l2.map aa)],.agg [.int .i64 s3,.sl (l3.map aa),.int .i64 s4,.sl (l4.map aa)]]:List Data)) b→a=b:=by
  rintro⟨s1,l1,s21,l21,s31,l31,s41,l41⟩ ⟨s2,l2,s22,l22,s32,l32,s42,l42⟩ h;simp only[List.cons.injEq,Data.agg.injEq,Data.int.injEq,Data.sl.injEq] at h;exact X6 h.1.1.2 (X6 (ah ak _ _ h.1.2.1) (X6 h.1.2.2.1.2 (X6 (ah ak _ _ h.1.2.2.2.1) (X6 h.2.1.1.2 (X6 (ah ak _ _ h.2.1.2.1) (X6 h.2.1.2.2.1.2 (ah ak _ _ h.2.1.2.2.2.1)))))))
@[go_sem] theorem Gl (s:Int) (l:List Int) (s2:Int) (l2:List Int) (s3:Int) (l3:List Int) (s4:Int) (l4:List Int) (hc:l.length≤1000000∧l2.length≤1000000∧l3.length≤1000000∧l4.length≤1000000):px [.agg [.int .i64 s,.sl (l.map aa),.int .i64 s2,.sl (l2.map aa)],.agg [.int .i64 s3,.sl (l3.map aa),.int .i64 s4,.sl (l4.map aa)]]=some (.same (bB (iY ((s,l),(s2,l2)) ((s3,l3),(s4,l4))))):=(aZ CV (s,l,s2,l2,s3,l3,s4,l4)).trans (ap hc _)
theorem Oj (T:Tab) (aK:T aY=mkE fQ) (kd:T dO=mkE vL) (io:T dy=mkE pS) (s:Int) (l:List Int) (s2:Int) (l2:List Int) (s3:Int) (l3:List Int) (s4:Int) (l4:List Int) (hc:l.length≤1000000∧l2.length≤1000000∧l3.length≤1000000∧l4.length≤1000000) :
  wp T mf_frac_Div.body (bG mf_frac_Div.res (.same (bB (iY ((s,l),(s2,l2)) ((s3,l3),(s4,l4)))))) ⟨az [.dat (.agg [.int .i64 s,.sl (l.map aa),.int .i64 s2,.sl (l2.map aa)]),.dat (.agg [.int .i64 s3,.sl (l3.map aa),.int .i64 s4,.sl (l4.map aa)])],emp⟩:=by
 refine aq ?_;simp only[mf_frac_Div];obtain⟨hl1,hl2,hl3,hl4⟩:=hc;unfold iY
 by_cases hr:bh ((s,l),(s2,l2))=true
 ·by_cases hr2:bh ((s3,l3),(s4,l4))=true
  ·rw[if_pos hr,if_pos hr2]
   dsimp only;rcases h0:(s3==0)
   ·have m1:=kQ (s,l) (s4,l4)
    have m2:=kQ (s2,l2) (s3,l3);rw[if_neg (by simp)];generalize hM1:gj (s,l) (s4,l4)=M1 at *;generalize hM2:gj (s2,l2) (s3,l3)=M2 at *;obtain⟨⟨a1,a2⟩,e1⟩:=M1;obtain⟨⟨b1,b2⟩,e2⟩:=M2;refine qI ?_
    repeat' (intro h<;>simp only[h,go_sem,go_sem_proc,X7,aK,kd,io,hl1,hl2,hl3,hl4,hr,hr2,h0,hM1,hM2,m1,m2,dR,bF,bB,ae]<;>try refine qS ?_ ?_)
   ·rw[if_pos rfl]
    refine qI ?_
    repeat' (intro h<;>simp only[h,go_sem,go_sem_proc,X7,aK,kd,io,hl1,hl2,hl3,hl4,hr,hr2,h0,bB,ae,cb,X8]<;>try refine qS ?_ ?_)
  ·have hr2:bh ((s3,l3),(s4,l4))=false:=by simpa using hr2
   rw[if_pos hr,if_neg (by simp [hr2])];refine qI ?_
   repeat' (intro h<;>simp only[h,go_sem,go_sem_proc,X7,aK,kd,io,hl1,hl2,hl3,hl4,hr,hr2,bB,ae,cb,X8]<;>try refine qS ?_ ?_)
 ·have hr:bh ((s,l),(s2,l2))=false:=by simpa using hr
  rw[if_neg (by simp [hr])];refine qI ?_
  repeat' (intro h<;>simp only[h,go_sem,go_sem_proc,X7,aK,kd,io,hl1,hl2,hl3,hl4,hr,bB,ae,cb,X8]<;>try refine qS ?_ ?_)
def qz (c:Bool) (v:Rat):aM × Int:=if c=true then (aj v,0) else (cb,6)
def okZ (z:Int):Bool:=decide (z.natAbs<LIM)
def ia (x y:Rat):Bool:=okZ (x.num*y.den)&&(okZ (y.num*x.den)&&(okZ (x.num*y.den+y.num*x.den)&&okZ ((x.den:Int)*y.den)))
def pQ (x y:Rat):Bool:=okZ (x.num*y.num)&&okZ ((x.den:Int)*y.den)
def nH (x y:Rat):Bool:=okZ (x.num*y.den)&&okZ ((x.den:Int)*y.num)
theorem iI {z:Int} (h:okZ z=true):li z=(aR z,0):=if_pos (by simpa [okZ] using h)
theorem jC {z:Int} (h:okZ z=false):li z=((0,[]),6):=if_neg (by simpa [okZ] using h)
theorem g5 {z:Int} (h:okZ z=true):z.natAbs<LIM:=by simpa [okZ] using h
theorem Kv {a b c d:Int} (ha:a.natAbs<LIM) (hb:b.natAbs<LIM) (hc:c.natAbs<LIM) (hd:d.natAbs<LIM) :
  s8 (aR a) (aR b) (aR c) (aR d)=if (okZ (a*b)&&(okZ (c*d)&&okZ (a*b+c*d)))=true then (aR (a*b+c*d),0) else ((0,[]),6):=by
 unfold s8;rw[jN ha hb,jN hc hd];rcases h1:okZ (a*b)
 ·rw[jC h1];rfl
 ·rw[iI h1]
  rcases h2:okZ (c*d)
  ·rw[jC h2];rfl
  ·rw[iI h2]
   show pN (aR (a*b)) (aR (c*d))=_;rw[AH (g5 h1) (g5 h2)];rcases h3:okZ (a*b+c*d)
   ·rw[jC h3];rfl
   ·rw[iI h3];rfl
theorem pq (x y:Rat):YD (x.num*y.den+y.num*x.den) ((x.den:Int)*y.den)=x+y:=by
 rw[←Rat.divInt_add_divInt _ _ (by have:=den_pos x;omega) (by have:=den_pos y;omega),YE,YE]
theorem pa (x y:Rat):YD (x.num*y.num) ((x.den:Int)*y.den)=x*y:=by
 rw[←YL,YE,YE]
theorem pm (x y:Rat):YD (x.num*y.den) ((x.den:Int)*y.num)=x / y:=by
 rw[←YL,YE,←Rat.inv_divInt,YE]
 rfl
theorem kB (x:Rat):(x.den:Int)≠0:=by have:=den_pos x;omega
theorem tF {x y:Rat} (hx:cm x) (hy:cm y):sG (aj x) (aj y)=qz (ia x y) (x+y):=by
 unfold sG;rw[if_pos (eU hx),if_pos (eU hy)]
 show nl (s8 (aR x.num) (aR y.den) (aR y.num) (aR x.den)) (gj (aR x.den) (aR y.den))=_;rw[Kv hx.1 (tY hy) hy.1 (tY hx),jN (tY hx) (tY hy)];unfold ia;rcases h1:okZ (x.num*y.den)
 ·rfl
 ·rcases h2:okZ (y.num*x.den)
  ·rfl
  ·rcases h3:okZ (x.num*y.den+y.num*x.den)
   ·rfl
   ·rcases h4:okZ ((x.den:Int)*y.den)
    ·rw[jC h4];rfl
    ·rw[iI h4]
     show fR (aR (x.num*y.den+y.num*x.den)) (aR ((x.den:Int)*y.den))=(aj (x+y),0)
     rw[iT (g5 h3) (g5 h4) (YM (kB x) (kB y)),pq]
theorem KH {x:Rat} (h:cm x):cm (-x):=⟨by rw[Rat.neg_num];have:=h.1;omega,by rw[Rat.neg_den];exact h.2⟩
theorem qL {x y:Rat} (hx:cm x) (hy:cm y):nt (aj x) (aj y)=qz (ia x (-y)) (x-y):=by
 unfold nt;rw[if_pos (eU hx),if_pos (eU hy)]
 have:(iO (aj y).1,(aj y).2)=aj (-y):=by
  unfold aj;have:iO (aR y.num)=aR (-y.num):=by unfold iO;rw[if_pos (bK hy.1),aU]
  dsimp only;rw[this];rfl
 rw[this,tF hx (KH hy),YN]
theorem tz {x y:Rat} (hx:cm x) (hy:cm y):mg (aj x) (aj y)=qz (pQ x y) (x*y):=by
 unfold mg;rw[if_pos (eU hx),if_pos (eU hy)]
 show nl (gj (aR x.num) (aR y.num)) (gj (aR x.den) (aR y.den))=_;rw[jN hx.1 hy.1,jN (tY hx) (tY hy)];unfold pQ;rcases h1:okZ (x.num*y.num)
 ·rw[jC h1];rfl
 ·rw[iI h1]
  rcases h4:okZ ((x.den:Int)*y.den)
  ·rw[jC h4];rfl
  ·rw[iI h4]
   show fR (aR (x.num*y.num)) (aR ((x.den:Int)*y.den))=(aj (x*y),0)
   rw[iT (g5 h1) (g5 h4) (YM (kB x) (kB y)),pa]
theorem qT {x y:Rat} (hx:cm x) (hy:cm y) (h0:y≠0):iY (aj x) (aj y)=qz (nH x y) (x / y):=by
 unfold iY;rw[if_pos (eU hx),if_pos (eU hy)];have hn:y.num≠0:=fun h=>h0 (Rat.num_eq_zero.1 h)
 have:((aj y).1.1==0)=false:=by
  show (y.num.sign==0)=false
  simpa using hn
 rw[this,if_neg (by simp)]
 show nl (gj (aR x.num) (aR y.den)) (gj (aR x.den) (aR y.num))=_;rw[jN hx.1 (tY hy),jN (tY hx) hy.1];unfold nH;rcases h1:okZ (x.num*y.den)
 ·rw[jC h1];rfl
 ·rw[iI h1]
  rcases h4:okZ ((x.den:Int)*y.num)
  ·rw[jC h4];rfl
  ·rw[iI h4]
   show fR (aR (x.num*y.den)) (aR ((x.den:Int)*y.num))=(aj (x / y),0)
   rw[iT (g5 h1) (g5 h4) (YM (kB x) hn),pm]
theorem K8 {x y:Rat} (h:ia x y=true):cm (x+y):=by
 unfold ia at h;simp only[YF] at h;rw[←pq];exact mL (g5 h.2.2.1) (g5 h.2.2.2)
theorem Ee {x y:Rat} (h:ia x (-y)=true):cm (x-y):=by rw[YN];exact K8 h
theorem D9 {x y:Rat} (h:pQ x y=true):cm (x*y):=by
 unfold pQ at h;simp only[YF] at h;rw[←pa];exact mL (g5 h.1) (g5 h.2)
theorem L3 {x y:Rat} (h:nH x y=true):cm (x / y):=by
 unfold nH at h;simp only[YF] at h;rw[←pm];exact mL (g5 h.1) (g5 h.2)
def jp (x y:Rat):Int:=(x.num*y.den-y.num*x.den).sign
def lc (a b:aM):Int:=if bh a=true then (if bh b=true then (gP a.1*gP b.2-gP b.1*gP a.2).sign else 0) else 0
theorem qb {x y:Rat} (hx:cm x) (hy:cm y):lc (aj x) (aj y)=jp x y:=by
 unfold lc;rw[if_pos (eU hx),if_pos (eU hy)];unfold aj jp;rw[aU,aU,aU,aU]
theorem cmpQ_zero {x y:Rat}:jp x y=0↔x=y:=by
 unfold jp;rw[X9,Rat.eq_iff_mul_eq_mul];omega
theorem qQ {p q:Int} (hq:0<q):0≤p.fmod q∧p.fmod q<q:=⟨Int.fmod_nonneg_of_pos _ hq,Int.fmod_lt_of_pos _ hq⟩
theorem JL {p q r s:Int} (hq:0<q) (hs:0<s) (h:p.fdiv q<r.fdiv s):p*s-r*q<0:=by
 have e1:=YO p q;have e2:=YO r s;have b1:=qQ (p:=p) hq;have b2:=qQ (p:=r) hs;generalize p.fdiv q=x at *;generalize r.fdiv s=y at *;generalize p.fmod q=u at *;generalize r.fmod s=v at *;subst e1 e2;have h1:q*s*(x+1)≤q*s*y:=Int.mul_le_mul_of_nonneg_left (by omega) (Yv (Int.mul_pos hq hs));have h2:u*s<q*s:=Int.mul_lt_mul_of_pos_right b1.2 hs;have h3:0≤v*q:=Yu b2.1 (by omega);have e3:(q*x+u)*s-(s*y+v)*q=q*s*(x+1)-q*s*y+(u*s-q*s)-v*q:=by grind
 omega
theorem O5 {p q r s:Int} (h:p.fdiv q=r.fdiv s):p*s-r*q=p.fmod q*s-r.fmod s*q:=by
 have e1:=YO p q;have e2:=YO r s;rw[h] at e1;generalize r.fdiv s=y at *;generalize p.fmod q=u at *;generalize r.fmod s=v at *;subst e1 e2;grind
theorem wK (a b:Int):(a-b).sign = -(b-a).sign:=by rw[←Yd];congr 1;omega
theorem wv {p q:Int} (hp:p.natAbs<LIM) (hq:q.natAbs<LIM) (h0:0<q) :
  je (p.sign,dg p.natAbs) (q.sign,dg q.natAbs)=(((p.fdiv q).sign,dg (p.fdiv q).natAbs),((p.fmod q).sign,dg (p.fmod q).natAbs),0):=kA hp hq (by omega)
noncomputable def cV:List Data→Option PRes:=FF (α:=Int × (List Int) × Int × (List Int) × Int × (List Int) × Int × (List Int)) (fun (s,l,s2,l2,s3,l3,s4,l4)=>([.agg [.int .i64 s,.sl (l.map aa),.int .i64 s2,.sl (l2.map aa)],.agg [.int .i64 s3,.sl (l3.map aa),.int .i64 s4,.sl (l4.map aa)]]:List Data)) (fun (s,l,s2,l2,s3,l3,s4,l4)=>aI (l.length≤1000000∧l2.length≤1000000∧l3.length≤1000000∧l4.length≤1000000) (.same (.int .i64 (lc ((s,l),(s2,l2)) ((s3,l3),(s4,l4))))))
theorem tj:∀ a b:Int × (List Int) × Int × (List Int) × Int × (List Int) × Int × (List Int),(fun (s,l,s2,l2,s3,l3,s4,l4)=>([.agg [.int .i64 s,.sl (l.map aa),.int .i64 s2,.sl (l2.map aa)],.agg [.int .i64 s3,.sl (l3.map aa),.int .i64 s4,.sl (l4.map aa)]]:List Data)) a=(fun (s,l,s2,l2,s3,l3,s4,l4)=>([.agg [.int .i64 s,.sl (l.map aa),.int .i64 s2,.sl (l2.map aa)],.agg [.int .i64 s3,.sl (l3.map aa),.int .i64 s4,.sl (l4.map aa)]]:List Data)) b→a=b:=by
  rintro⟨s1,l1,s21,l21,s31,l31,s41,l41⟩ ⟨s2,l2,s22,l22,s32,l32,s42,l42⟩ h;simp only[List.cons.injEq,Data.agg.injEq,Data.int.injEq,Data.sl.injEq] at h;exact X6 h.1.1.2 (X6 (ah ak _ _ h.1.2.1) (X6 h.1.2.2.1.2 (X6 (ah ak _ _ h.1.2.2.2.1) (X6 h.2.1.1.2 (X6 (ah ak _ _ h.2.1.2.1) (X6 h.2.1.2.2.1.2 (ah ak _ _ h.2.1.2.2.2.1)))))))
@[go_sem] theorem oV (s:Int) (l:List Int) (s2:Int) (l2:List Int) (s3:Int) (l3:List Int) (s4:Int) (l4:List Int) (hc:l.length≤1000000∧l2.length≤1000000∧l3.length≤1000000∧l4.length≤1000000):cV [.agg [.int .i64 s,.sl (l.map aa),.int .i64 s2,.sl (l2.map aa)],.agg [.int .i64 s3,.sl (l3.map aa),.int .i64 s4,.sl (l4.map aa)]]=some (.same (.int .i64 (lc ((s,l),(s2,l2)) ((s3,l3),(s4,l4))))):=(aZ tj (s,l,s2,l2,s3,l3,s4,l4)).trans (ap hc _)
theorem DL (T:Tab) (aK:T aY=mkE fQ) (j0:T iw=mkE D8) (fV:T kP=mkE rA) (s:Int) (l:List Int) (s2:Int) (l2:List Int) (s3:Int) (l3:List Int) (s4:Int) (l4:List Int) (hc:l.length≤1000000∧l2.length≤1000000∧l3.length≤1000000∧l4.length≤1000000) :
  wp T mf_frac_Compare.body (bG mf_frac_Compare.res (.same (.int .i64 (lc ((s,l),(s2,l2)) ((s3,l3),(s4,l4)))))) ⟨az [.dat (.agg [.int .i64 s,.sl (l.map aa),.int .i64 s2,.sl (l2.map aa)]),.dat (.agg [.int .i64 s3,.sl (l3.map aa),.int .i64 s4,.sl (l4.map aa)])],emp⟩:=by
 refine aq ?_;simp only[mf_frac_Compare];obtain⟨hl1,hl2,hl3,hl4⟩:=hc
 by_cases hr:bh ((s,l),(s2,l2))=true
 ·by_cases hr2:bh ((s3,l3),(s4,l4))=true
  ·obtain⟨x,hx,e⟩:=(kE _).1 hr
   obtain⟨y,hy,e2⟩:=(kE _).1 hr2;have hm:lc ((s,l),(s2,l2)) ((s3,l3),(s4,l4))=jp x y:=by rw[e,e2,qb hx hy]
   rw[hm];clear hm;have ea:(s,l)=aR x.num:=congrArg YK e;have eb:(s2,l2)=aR x.den:=congrArg Prod.snd e;have ec:(s3,l3)=aR y.num:=congrArg YK e2;have ed:(s4,l4)=aR y.den:=congrArg Prod.snd e2;clear e e2;have hxd:=tY hx;have hyd:=tY hy;have hx0:=den_pos x;have hy0:=den_pos y;have hxn:=hx.1;have hyn:=hy.1;unfold jp;generalize x.num=P at *;generalize (x.den:Int)=Q at *;generalize y.num=R at *;generalize (y.den:Int)=S at *
   cases ea
   cases eb
   cases ec
   cases ed;simp only[go_sem,go_sem_proc,X7,aK,j0,fV,hl1,hl2,hl3,hl4,hr,hr2];refine af [5,6,7,8] [135002,135003] (fun ((sg,p,q,r,t):Int × Int × Int × Int × Int) tm mem=>(sg=1∨sg = -1)∧0<q∧0<t∧p.natAbs<LIM∧q.natAbs<LIM∧r.natAbs<LIM∧t.natAbs<LIM∧(P*S-R*Q).sign=sg*(p*t-r*q).sign∧tm 9 = .dat (.int .i64 sg)∧mem 135005=some (0,[.dat (.int .i64 p.sign),.dat (.sl ((dg p.natAbs).map aa))])∧mem 135006=some (0,[.dat (.int .i64 q.sign),.dat (.sl ((dg q.natAbs).map aa))])∧mem 135007=some (0,[.dat (.int .i64 r.sign),.dat (.sl ((dg r.natAbs).map aa))])∧mem 135008=some (0,[.dat (.int .i64 t.sign),.dat (.sl ((dg t.natAbs).map aa))])) (fun (_,_,q,_,_)=>q.natAbs) (1,P,Q,R,S) (by refine⟨.inl rfl,hx0,hy0,hxn,hxd,hyn,hyd,by rw[XX],rfl,?_,?_,?_,?_⟩<;>rfl) ?_
   intro vs ms hvs hms;simp only[go_sem,go_sem_proc,X7,aK,j0,fV] at hvs hms;subst hvs hms;rintro⟨sg,p,q,r,t⟩ tm mem hk hm ⟨hsg,hq0,ht0,hp,hq,hrr,ht,hval,h9,m5,m6,m7,m8⟩;simp only[go_sem,go_sem_proc,X7,aK,j0,fV,List.cons.injEq] at hk hm;obtain⟨h5,h6,h7,h8⟩:=hk;have lp:=eX hp;have lq:=eX hq;have lr:=eX hrr;have lt:=eX ht;have hd1:=wv hp hq hq0;have hd2:=wv hrr ht ht0;have bx:=lY (y:=q) hp (by omega);have by':=lY (y:=t) hrr (by omega)
   have lx:=eX bx;have ly:=eX by'
   have hcm:tO ((p.fdiv q).sign,dg (p.fdiv q).natAbs) ((r.fdiv t).sign,dg (r.fdiv t).natAbs)=fY (p.fdiv q) (r.fdiv t):=z7 bx by'
   have bu:=qQ (p:=p) hq0;have bv:=qQ (p:=r) ht0;have hneg1:IntKind.i64.wrap (0-sg) = -sg:=by rcases hsg with rfl | rfl<;>rfl
   rcases YI (p.fdiv q) (r.fdiv t) with hlt | heq | hgt
   ·have hv:=JL hq0 ht0 hlt
    rw[qV hlt] at hcm;rw[hval,Yn hv];have hw:IntKind.i64.wrap (sg * -1)=sg * -1:=by rcases hsg with rfl | rfl<;>rfl
    refine qI ?_
    repeat' (intro h<;>simp only[h,go_sem,go_sem_proc,X7,aK,j0,fV,h5,h6,h7,h8,h9,hm,m5,m6,m7,m8,lp,lq,lr,lt,lx,ly,hd1,hd2,hcm,hw,dj,bF,show ((-1:Int)==0)=false from rfl]<;>try refine qS ?_ ?_)
   ·have hv:=O5 heq
    rw[heq,sK] at hcm
    have hw2:∀ a:Int,-1≤a→a≤1→IntKind.i64.wrap (sg*a)=sg*a:=by
     intro a h1 h2;rcases hsg with rfl | rfl<;>exact al _ (by omega) (by omega)
    rw[heq] at hd1 lx;have bul:(p.fmod q).natAbs<LIM:=by omega
    have bvl:(r.fmod t).natAbs<LIM:=by omega
    rw[hv] at hval;generalize p.fmod q=u at *;generalize r.fmod t=v at *
    by_cases hu:u=0
    ·subst hu
     have hs:(0*t-v*q).sign=(0:Int).sign-v.sign:=by
      rw[XY,YP,Yd,Ya,Ye hq0,X0,YQ,YP]
     rw[hs] at hval;rw[hval];have h3:=eh v;have hw0:IntKind.i64.wrap ((0:Int).sign-v.sign)=(0:Int).sign-v.sign:=al _ (by rw[YQ];omega) (by rw[YQ];omega);have hw:=hw2 ((0:Int).sign-v.sign) (by rw[YQ];omega) (by rw[YQ];omega);refine qI ?_
     repeat' (intro h<;>simp only[h,go_sem,go_sem_proc,X7,aK,j0,fV,h5,h6,h7,h8,h9,hm,m5,m6,m7,m8,lp,lq,lr,lt,lx,ly,hd1,hd2,hcm,hw,hw0,dj,bF,show ((0:Int)==0)=true from rfl,show ((0:Int).sign==0)=true from rfl]<;>try refine qS ?_ ?_)
    ·have hu0:0<u:=by omega
     have hu1:(u.sign==0)=false:=by simpa using hu
     by_cases hv0:v=0
     ·subst hv0
      have hs:(u*t-0*q).sign=u.sign-(0:Int).sign:=by
       rw[XY,YR,Ya,Ye ht0,X0,YQ,YR]
      rw[hs] at hval;rw[hval];have h3:=eh u;have hw0:IntKind.i64.wrap (u.sign-(0:Int).sign)=u.sign-(0:Int).sign:=al _ (by rw[YQ];omega) (by rw[YQ];omega);have hw:=hw2 (u.sign-(0:Int).sign) (by rw[YQ];omega) (by rw[YQ];omega);refine qI ?_
      repeat' (intro h<;>simp only[h,go_sem,go_sem_proc,X7,aK,j0,fV,h5,h6,h7,h8,h9,hm,m5,m6,m7,m8,lp,lq,lr,lt,lx,ly,hd1,hd2,hcm,hw,hw0,hu1,dj,bF,show ((0:Int)==0)=true from rfl,show ((0:Int).sign==0)=true from rfl]<;>try refine qS ?_ ?_)
     ·have hv1:(v.sign==0)=false:=by simpa using hv0
      refine qI ?_
      repeat' (intro h<;>simp only[h,go_sem,go_sem_proc,X7,aK,j0,fV,h5,h6,h7,h8,h9,hm,m5,m6,m7,m8,lp,lq,lr,lt,lx,ly,hd1,hd2,hcm,hu1,hv1,hneg1,dj,bF,show ((0:Int)==0)=true from rfl]<;>try refine qS ?_ ?_)
      refine⟨(-sg,q,u,t,v),by dsimp only;omega,by dsimp only;omega,by dsimp only;omega,by dsimp only;omega,by dsimp only;omega,by dsimp only;omega,by dsimp only;omega,by dsimp only;omega,?_,by simp [go_sem],by simp [go_sem],by simp [go_sem],by simp [go_sem],by simp [go_sem]⟩
      dsimp only;rw[hval,wK (q*v) (t*u),Int.neg_mul_neg,YB t u,YB q v]
   ·have hv:=JL ht0 hq0 hgt
    rw[qE hgt] at hcm;rw[hval,wK,Yn hv];have hw:IntKind.i64.wrap (sg*1)=sg * -(-1):=by rcases hsg with rfl | rfl<;>rfl
    refine qI ?_
    repeat' (intro h<;>simp only[h,go_sem,go_sem_proc,X7,aK,j0,fV,h5,h6,h7,h8,h9,hm,m5,m6,m7,m8,lp,lq,lr,lt,lx,ly,hd1,hd2,hcm,hw,dj,bF,show ((1:Int)==0)=false from rfl]<;>try refine qS ?_ ?_)
  ·have hr2:bh ((s3,l3),(s4,l4))=false:=by simpa using hr2
   have hm:lc ((s,l),(s2,l2)) ((s3,l3),(s4,l4))=0:=by unfold lc;rw[if_pos hr,if_neg (by simp [hr2])]
   rw[hm];refine qI ?_
   repeat' (intro h<;>simp only[h,go_sem,go_sem_proc,X7,aK,j0,fV,hl1,hl2,hl3,hl4,hr,hr2]<;>try refine qS ?_ ?_)
 ·have hr:bh ((s,l),(s2,l2))=false:=by simpa using hr
  have hm:lc ((s,l),(s2,l2)) ((s3,l3),(s4,l4))=0:=by unfold lc;rw[if_neg (by simp [hr])]
  rw[hm];refine qI ?_
  repeat' (intro h<;>simp only[h,go_sem,go_sem_proc,X7,aK,j0,fV,hl1,hl2,hl3,hl4,hr]<;>try refine qS ?_ ?_)
end Go.Mini
