/- A part of the proof. -/
import Derived.Test.YtdbkjjoedjfmpaaM05
import Derived.Test.YtdbkjjoedjfmpaaM04
set_option linter.unusedSimpArgs false
set_option linter.unusedVariables false
open Nat renaming div_add_mod → XQ, eq_zero_or_pos → XR, mod_lt → XS, zero_mod → X2, mul_le_mul_right → X3, div_le_self → X4, le_of_lt → Yc, pos_of_ne_zero → Yi, reduceMul → Yy, gcd → YD
open Int renaming ofNat_sub → XT, natCast_add → XU, mul_neg → XV, mul_add → XW, neg_mul → XX, one_mul → XY, zero_mul → XZ, mul_zero → X0, mul_one → X1, natAbs_mul → X5, natAbs_natCast → X6, sign_eq_zero_iff_zero → Ya, sign_mul → Yb, natAbs_neg → Yd, sign_neg → Ye, sign_eq_one_of_pos → Yf, sign_sign → Yg, sign_eq_neg_one_of_neg → Yo, natCast_zero → Yp, cast_ofNat_Int → Yq, mul_nonneg → Yv, le_of_lt → Yw, pow_pos → Yx, reducePow → Yz, toNat_natCast → YB, mul_comm → YC, fdiv_eq_ediv_of_nonneg → YI, lt_trichotomy → YJ, mul_ne_zero → YN, mul_fdiv_add_fmod → YP, zero_sub → YQ, sign_zero → YR, sub_zero → YS
open Prod renaming ext → X7, ext_iff → Yl, fst → YL
open Bool renaming false_eq_true → X8, and_false → Yj, false_and → Yk, and_eq_true → YG, true_and → YH
open List renaming map_nil → X9, length_map → Yh, append_nil → Yn, take_length → Yr, length → Ys, length_append → Yt, append_assoc → Yu, getElem?_map → YA
open Decidable renaming em → Ym
open Rat renaming divInt → YE, num_divInt_den → YF, neg_divInt_neg → YK, divInt_mul_divInt → YM, sub_eq_add_neg → YO
namespace Go.Mini
open Go
set_option maxRecDepth 10000
set_option maxHeartbeats 2000000
def jf (a b:Raw):Raw × Raw × Int :=
 if (aK a&&aK b)=true then
  if gH b=0 then ((0,[]),(0,[]),15) else (aS ((gH a).fdiv (gH b)),aS ((gH a).fmod (gH b)),0)
 else ((0,[]),(0,[]),1)
def dc (x:Raw × Raw × Int):Data:=.tup [.agg (bE x.1),.agg (bE x.2.1),.int .i64 x.2.2]
theorem Ee {x y q r:Int} (h:r+y*q=x) (hr:(0≤r∧r<y)∨(y<r∧r≤0)):x.fdiv y=q∧x.fmod y=r:=by
 rcases hr with ⟨h1,h2⟩ | ⟨h1,h2⟩
 ·exact (Int.fdiv_fmod_unique (by omega)).2 ⟨h,h1,h2⟩
 ·exact (Int.fdiv_fmod_unique' (by omega)).2 ⟨h,h1,h2⟩
theorem om {x y:Int} (h:x.sign*y.sign<0) (hm:x.natAbs % y.natAbs≠0) :
  x.fdiv y = -((x.natAbs / y.natAbs+1:Nat):Int)∧x.fmod y=y.sign*((y.natAbs-x.natAbs % y.natAbs:Nat):Int):=by
 have h2:=XQ x.natAbs y.natAbs;generalize hQ:x.natAbs / y.natAbs=Q at *;generalize hR:x.natAbs % y.natAbs=R at *
 have hy:0<y.natAbs:=by
  rcases XR y.natAbs with h0 | h0
  ·rw[Int.natAbs_eq_zero.1 h0] at h;simp at h
  ·exact h0
 have hlt:R<y.natAbs:=by rw[←hR];exact XS _ hy
 have h2':(y.natAbs:Int)*Q+R=x.natAbs:=by exact_mod_cast h2
 refine Ee ?_ ?_
 ·rcases cC x with ⟨e,h1⟩ | ⟨e,h1⟩ | ⟨e,h1⟩<;>rcases cC y with ⟨e',h3⟩ | ⟨e',h3⟩ | ⟨e',h3⟩<;>rw[e,e'] at h<;>first | omega | rw[e']
  ·rw[XT (by omega),XU,XV,XW]
   have:(y.natAbs:Int) = -y:=by omega
   rw[this] at h2' ⊢;rw[XX] at h2';omega
  ·rw[XT (by omega),XU,XV,XW]
   have:(y.natAbs:Int)=y:=by omega
   rw[this] at h2' ⊢;omega
 ·rcases cC y with ⟨e',h3⟩ | ⟨e',h3⟩ | ⟨e',h3⟩<;>rw[e']<;>omega
theorem ls {x y:Int} (hy:y≠0) (h:¬ (x.sign*y.sign<0∧x.natAbs % y.natAbs≠0)) :
  x.fdiv y=x.sign*y.sign*((x.natAbs / y.natAbs:Nat):Int)∧x.fmod y=x.sign*((x.natAbs % y.natAbs:Nat):Int):=by
 have h2:=XQ x.natAbs y.natAbs;have hlt:x.natAbs % y.natAbs<y.natAbs:=XS _ (by omega);generalize hQ:x.natAbs / y.natAbs=Q at *;generalize hR:x.natAbs % y.natAbs=R at *;have h2':(y.natAbs:Int)*Q+R=x.natAbs:=by exact_mod_cast h2
 refine Ee ?_ ?_
 ·rcases cC x with ⟨e,h1⟩ | ⟨e,h1⟩ | ⟨e,h1⟩<;>rcases cC y with ⟨e',h3⟩ | ⟨e',h3⟩ | ⟨e',h3⟩<;>first | omega | (rw[e,e'])
  ·rw[show (y.natAbs:Int)=y by omega] at h2';simp only[XY];omega
  ·rw[show (y.natAbs:Int) = -y by omega,XX] at h2';simp only[XY,XX,XV];omega
  ·simp only[XZ,X0];omega
  ·simp only[XZ,X0];omega
  ·rw[show (y.natAbs:Int)=y by omega] at h2';simp only[XY,XX,XV,X1];omega
  ·rw[show (y.natAbs:Int) = -y by omega,XX] at h2';simp only[XY,XX,XV,Int.neg_neg];omega
 ·have hR0:x.natAbs=0→R=0:=by
   intro h0;rw[←hR,h0,X2]
  rcases cC x with ⟨e,h1⟩ | ⟨e,h1⟩ | ⟨e,h1⟩<;>rcases cC y with ⟨e',h3⟩ | ⟨e',h3⟩ | ⟨e',h3⟩<;>rw[e,e'] at h<;>rw[e]<;>omega
theorem my {x y:Int} (hx:x.natAbs<LIM) (hy0:y≠0):(x.fdiv y).natAbs<LIM:=by
 by_cases h:x.sign*y.sign<0∧x.natAbs % y.natAbs≠0
 ·have hf:=(om h.1 h.2).1
  have h2:=XQ x.natAbs y.natAbs
  have:x.natAbs / y.natAbs+1≤x.natAbs:=by
   have hy2:2≤y.natAbs:=by
    rcases Nat.lt_or_ge y.natAbs 2 with h0 | h0
    ·have:y.natAbs=1:=by omega
     rw[this,Nat.mod_one] at h;exact absurd rfl h.2
    ·exact h0
   have h3:2*(x.natAbs / y.natAbs)≤y.natAbs*(x.natAbs / y.natAbs):=X3 _ hy2;omega
  generalize x.natAbs / y.natAbs=Q at *;omega
 ·have hf:=(ls hy0 h).1
  have h3:x.natAbs / y.natAbs≤x.natAbs:=X4 _ _
  have h4:(x.fdiv y).natAbs≤x.natAbs / y.natAbs:=by
   rw[hf,X5,X5,X6];have h1:x.sign.natAbs≤1:=by have:=dY x;omega
   have h2:y.sign.natAbs≤1:=by have:=dY y;omega
   have:=Nat.mul_le_mul h1 h2;have:=X3 (x.natAbs / y.natAbs) this;omega
  omega
theorem As {x y:Int} (hy:y.natAbs<LIM) (hy0:y≠0):(x.fmod y).natAbs<LIM:=by
 by_cases h:x.sign*y.sign<0∧x.natAbs % y.natAbs≠0
 ·have hf:=(om h.1 h.2).2
  rcases cC y with ⟨e',h3⟩ | ⟨e',h3⟩ | ⟨e',h3⟩<;>rw[e'] at hf<;>omega
 ·have hf:=(ls hy0 h).2
  have hlt:x.natAbs % y.natAbs<y.natAbs:=XS _ (by omega);rcases cC x with ⟨e',h3⟩ | ⟨e',h3⟩ | ⟨e',h3⟩<;>rw[e'] at hf<;>omega
theorem kr {x y:Int} (hx:x.natAbs<LIM) (hy:y.natAbs<LIM) (h0:y≠0):jf (aS x) (aS y)=(aS (x.fdiv y),aS (x.fmod y),0):=by
 unfold jf;rw[bM hx,bM hy,aU,aU,if_pos (by rfl),if_neg h0]
noncomputable def Ey:List Data→Option PRes:=FF (α:=Int × (List Int) × Int × (List Int)) (fun (s,l,s2,l2)=>([.agg [.int .i64 s,.sl (l.map aa)],.agg [.int .i64 s2,.sl (l2.map aa)]]:List Data)) (fun (s,l,s2,l2)=>aH (l.length≤1000000∧l2.length≤1000000) (.same (dc (jf (s,l) (s2,l2)))))
theorem GM:∀ a b:Int × (List Int) × Int × (List Int),(fun (s,l,s2,l2)=>([.agg [.int .i64 s,.sl (l.map aa)],.agg [.int .i64 s2,.sl (l2.map aa)]]:List Data)) a=(fun (s,l,s2,l2)=>([.agg [.int .i64 s,.sl (l.map aa)],.agg [.int .i64 s2,.sl (l2.map aa)]]:List Data)) b→a=b:=by
  rintro⟨s1,l1,s21,l21⟩ ⟨s2,l2,s22,l22⟩ h;simp only[List.cons.injEq,Data.agg.injEq,Data.int.injEq,Data.sl.injEq] at h;exact X7 h.1.1.2 (X7 (af aj _ _ h.1.2.1) (X7 h.2.1.1.2 (af aj _ _ h.2.1.2.1)))
@[go_sem] theorem Q1 (s:Int) (l:List Int) (s2:Int) (l2:List Int) (hc:l.length≤1000000∧l2.length≤1000000):Ey [.agg [.int .i64 s,.sl (l.map aa)],.agg [.int .i64 s2,.sl (l2.map aa)]]=some (.same (dc (jf (s,l) (s2,l2)))):=(aX GM (s,l,s2,l2)).trans (an hc _)
theorem Qc (T:Tab) (al:T ba=mkE eh) (iE:T kI=mkE EN) (gk:T ky=mkE DZ) (gD:T jl=mkE D6) (aO:T bA=mkE jI) (s:Int) (l:List Int) (s2:Int) (l2:List Int) (hc:l.length≤1000000∧l2.length≤1000000) :
  wp T mf_big_Div.body (bF mf_big_Div.res (.same (dc (jf (s,l) (s2,l2))))) ⟨ax [.dat (.agg [.int .i64 s,.sl (l.map aa)]),.dat (.agg [.int .i64 s2,.sl (l2.map aa)])],emp⟩:=by
 refine ap ?_;simp only[mf_big_Div];obtain⟨hl1,hl2⟩:=hc
 by_cases hr:aK (s,l)=true
 ·by_cases hr2:aK (s2,l2)=true
  ·obtain⟨x,hx,e⟩:=(bj _).1 hr
   obtain⟨y,hy,e2⟩:=(bj _).1 hr2
   by_cases hy0:y=0
   ·have hm:jf (s,l) (s2,l2)=((0,[]),(0,[]),15):=by
     rw[e,e2];unfold jf
     rw[bM hx,bM hy,aU,aU,if_pos (by rfl),if_pos hy0]
    rw[hm]
    cases e
    cases e2;have h0:((y.sign:Int)==0)=true:=by rw[hy0];rfl
    simp only[go_sem,go_sem_proc,X8,al,iE,gk,gD,aO,hr,hr2,hl1,hl2,h0,bE,dc,X9]
    repeat' (first|refine qS ?_ ?_|fail)<;>intro h<;>simp only[h,go_sem,go_sem_proc,X8,al,iE,gk,gD,aO,hr,hr2,hl1,hl2,h0,bE,dc,X9]
   ·have hm:jf (s,l) (s2,l2)=(aS (x.fdiv y),aS (x.fmod y),0):=by
     rw[e,e2];exact kr hx hy hy0
    rw[hm];clear hm
    cases e
    cases e2;have hlx:=fM hx;have hly:=fM hy;have hy0':(y.sign==0)=false:=by rw[beq_eq_false_iff_ne,Ne,Ya];exact hy0
    have hypos:0<y.natAbs:=by omega
    have h1:=dY x;have h2:=dY y;have hp:x.sign*y.sign=(x*y).sign:=(Yb x y).symm;have h3:=dY (x*y);have hw:IntKind.i64.wrap (x.sign*y.sign)=x.sign*y.sign:=by rw[hp];exact ak _ (by omega) (by omega)
    have hdiv:=z7 x.natAbs y.natAbs ⟨by omega,by omega,hypos⟩
    simp only[digs] at hdiv;have hq:=my (y:=y) hx hy0;have hr3:=As (x:=x) hy hy0;have hlq:x.natAbs / y.natAbs<LIM:=Nat.lt_of_le_of_lt (X4 _ _) hx;have hlq':(dg (x.natAbs / y.natAbs)).length≤60:=dg_len.2 hlq;have hlr:x.natAbs % y.natAbs<LIM:=Nat.lt_trans (XS _ hypos) hy;have hlr':(dg (x.natAbs % y.natAbs)).length≤60:=dg_len.2 hlr
    by_cases hlow:x.sign*y.sign<0∧x.natAbs % y.natAbs≠0
    ·obtain⟨eq,er⟩:=om hlow.1 hlow.2
     have hne:decide (((dg (x.natAbs % y.natAbs)).length:Int)>0)=true:=by
      have:dg (x.natAbs % y.natAbs)≠[]:=by rw[Ne,mP];exact hlow.2
      have:=List.length_pos_iff.2 this;exact decide_eq_true (by omega)
     have hneg:decide (x.sign*y.sign<0)=true:=decide_eq_true hlow.1;have hd1:dg 1=[1]:=by simp [dg,dgF]
     have hl1d:(dg 1).length=1:=by rw[hd1];rfl
     have hadd:=Bv (x.natAbs / y.natAbs) 1 ⟨by omega,by omega⟩
     simp only[digs,hd1,List.map_cons,X9,aa] at hadd;have hsub:=uJ y.natAbs (x.natAbs % y.natAbs) ⟨by omega,Yc (XS _ hypos)⟩
     simp only[digs] at hsub
     have hla:(dg (x.natAbs / y.natAbs+1)).length≤1000000:=by
      have:(x.natAbs / y.natAbs+1)<LIM:=by rw[eq] at hq;rw[Yd,X6] at hq;exact hq
      have:=(dg_len (k:=60)).2 this;omega
     have hlb:(dg (y.natAbs-x.natAbs % y.natAbs)).length≤1000000:=by have:=sR y.natAbs (x.natAbs % y.natAbs);omega
     have hs1:fa (-1) (dg (x.natAbs / y.natAbs+1))=aS (x.fdiv y):=cY (by rw[eq,Yd,X6]) fun _=>by rw[eq,Ye,Yf (show (0:Int)<((x.natAbs / y.natAbs+1:Nat):Int) by exact Int.natCast_pos.2 (Nat.succ_pos _))]
     have hs2:fa y.sign (dg (y.natAbs-x.natAbs % y.natAbs))=aS (x.fmod y):=by
      refine cY ?_ fun hn=>?_
      ·rw[er];rcases cC y with ⟨e',h3⟩ | ⟨e',h3⟩ | ⟨e',h3⟩<;>rw[e']<;>omega
      ·rw[er,Yb,Yg,Yf (show (0:Int)<((y.natAbs-x.natAbs % y.natAbs:Nat):Int) by omega),X1]
     simp only[go_sem,go_sem_proc,X8,al,iE,gk,gD,aO,hr,hr2,hl1,hl2,hy0',hw,hdiv,hne,hneg,hadd,hsub,hla,hlb,hs1,hs2,aa,Yh,bE,dc,cS]
     repeat' (first|refine qS ?_ ?_|fail)<;>intro h<;>simp only[h,go_sem,go_sem_proc,X8,al,iE,gk,gD,aO,hr,hr2,hl1,hl2,hy0',hw,hdiv,hne,hneg,hadd,hsub,hla,hlb,hs1,hs2,aa,Yh,bE,dc,cS]
    ·obtain⟨eq,er⟩:=ls hy0 hlow
     have hlow':(decide (x.sign*y.sign<0)=true∧decide (((dg (x.natAbs % y.natAbs)).length:Int)>0)=false)∨decide (x.sign*y.sign<0)=false:=by
      by_cases hn:x.sign*y.sign<0
      ·left
       have:x.natAbs % y.natAbs=0:=Decidable.not_not.1 fun h=>hlow ⟨hn,h⟩
       rw[this];exact⟨decide_eq_true hn,rfl⟩
      ·right;exact decide_eq_false hn
     have hla:(dg (x.natAbs / y.natAbs)).length≤1000000:=by omega
     have hlb:(dg (x.natAbs % y.natAbs)).length≤1000000:=by omega
     have hs1:fa (x.sign*y.sign) (dg (x.natAbs / y.natAbs))=aS (x.fdiv y):=by
      refine cY ?_ fun hn=>?_
      ·rw[eq]
       have hgen:∀ Q:Nat,(x=0→Q=0)→(x.sign*y.sign*(Q:Int)).natAbs=Q:=by
        intro Q h0;rcases cC x with ⟨e,h1⟩ | ⟨e,h1⟩ | ⟨e,h1⟩<;>rcases cC y with ⟨e',h3⟩ | ⟨e',h3⟩ | ⟨e',h3⟩<;>rw[e,e']<;>first | omega | (rw[h0 h1];rfl)
       exact hgen _ fun h0=>by rw[h0];exact Nat.zero_div _
      ·rw[eq,hp,Yb,Yb,Yb,Yg,Yg,Yf (show (0:Int)<((x.natAbs / y.natAbs:Nat):Int) from Int.natCast_pos.2 (Yi hn)),X1]
     have hs2:fa x.sign (dg (x.natAbs % y.natAbs))=aS (x.fmod y):=by
      refine cY ?_ fun hn=>?_
      ·rw[er]
       have hgen:∀ Q:Nat,(x=0→Q=0)→(x.sign*(Q:Int)).natAbs=Q:=by
        intro Q h0;rcases cC x with ⟨e,h1⟩ | ⟨e,h1⟩ | ⟨e,h1⟩<;>rw[e]<;>first | omega | (rw[h0 h1];rfl)
       exact hgen _ fun h0=>by rw[h0];exact X2 _
      ·rw[er,Yb,Yg,Yf (show (0:Int)<((x.natAbs % y.natAbs:Nat):Int) from Int.natCast_pos.2 (Yi hn)),X1]
     rcases hlow' with ⟨hlow1,hlow2⟩ | hlow1
     ·simp only[go_sem,go_sem_proc,X8,al,iE,gk,gD,aO,hr,hr2,hl1,hl2,hy0',hw,hdiv,hlow1,hlow2,hla,hlb,hs1,hs2,aa,Yh,bE,dc,cS]
      repeat' (first|refine qS ?_ ?_|fail)<;>intro h<;>simp only[h,go_sem,go_sem_proc,X8,al,iE,gk,gD,aO,hr,hr2,hl1,hl2,hy0',hw,hdiv,hlow1,hlow2,hla,hlb,hs1,hs2,aa,Yh,bE,dc,cS]
     ·simp only[go_sem,go_sem_proc,X8,al,iE,gk,gD,aO,hr,hr2,hl1,hl2,hy0',hw,hdiv,hlow1,hla,hlb,hs1,hs2,aa,Yh,bE,dc,cS]
      repeat' (first|refine qS ?_ ?_|fail)<;>intro h<;>simp only[h,go_sem,go_sem_proc,X8,al,iE,gk,gD,aO,hr,hr2,hl1,hl2,hy0',hw,hdiv,hlow1,hla,hlb,hs1,hs2,aa,Yh,bE,dc,cS]
  ·have hr2:aK (s2,l2)=false:=by simpa using hr2
   have hm:jf (s,l) (s2,l2)=((0,[]),(0,[]),1):=by unfold jf;rw[hr2,Yj];rfl
   rw[hm];simp only[go_sem,go_sem_proc,X8,al,iE,gk,gD,aO,hr,hr2,hl1,hl2,bE,dc,X9]
   repeat' (first|refine qS ?_ ?_|fail)<;>intro h<;>simp only[h,go_sem,go_sem_proc,X8,al,iE,gk,gD,aO,hr,hr2,hl1,hl2,bE,dc,X9]
 ·have hr:aK (s,l)=false:=by simpa using hr
  have hm:jf (s,l) (s2,l2)=((0,[]),(0,[]),1):=by unfold jf;rw[hr,Yk];rfl
  rw[hm];simp only[go_sem,go_sem_proc,X8,al,iE,gk,gD,aO,hr,hl1,hl2,bE,dc,X9]
  repeat' (first|refine qS ?_ ?_|fail)<;>intro h<;>simp only[h,go_sem,go_sem_proc,X8,al,iE,gk,gD,aO,hr,hl1,hl2,bE,dc,X9]
def ct (n:Int):Prop:=-9223372036854775808≤n∧n≤9223372036854775807
theorem My {n:Nat} (h:n≤9223372036854775808):n<LIM:=by
 unfold LIM;refine Nat.lt_of_lt_of_le (m:=1048576^4) ?_ (Nat.pow_le_pow_right (by omega) (by omega));omega
theorem jx {n:Int} (h:ct n):n.natAbs<LIM:=My (by unfold ct at h;omega)
theorem rT (n:Int) (h1:-18446744073709551616≤n) (h2:n<0):IntKind.u64.wrap n=n+18446744073709551616:=by
 unfold IntKind.wrap;simp [IntKind.bits,IntKind.signed];omega
noncomputable def yu:List Data→Option PRes:=FF (α:=Int) (fun (n:Int)=>([.int .i64 n]:List Data)) (fun (n:Int)=>aH (ct n) (.same (.agg (bE (aS n)))))
theorem Ab:∀ a b:Int,(fun (n:Int)=>([.int .i64 n]:List Data)) a=(fun (n:Int)=>([.int .i64 n]:List Data)) b→a=b:=by
  intro n1 n2 h;simp only[List.cons.injEq,Data.int.injEq,Data.agg.injEq,Data.sl.injEq,Data.bool.injEq,Data.str.injEq,Data.ptr.injEq,Data.tup.injEq,Prod.mk.injEq,true_and,and_true] at h ⊢
  first | exact h | simpa [Yl,and_assoc] using h | grind
@[go_sem] theorem Pc (n:Int) (hc:ct n):yu [.int .i64 n]=some (.same (.agg (bE (aS n)))):=(aX Ab n).trans (an hc _)
theorem Ml (T:Tab) (aO:T bA=mkE jI) (n:Int) (hc:ct n) :
  wp T mf_big_Of.body (bF mf_big_Of.res (.same (.agg (bE (aS n))))) ⟨ax [.dat (.int .i64 n)],emp⟩:=by
 refine ap ?_;simp only[mf_big_Of];have hc':=hc;unfold ct at hc';obtain⟨hn1,hn2⟩:=hc';have hs:∀ s:Int,(n≠0→s=n.sign)→fa s (dg n.natAbs)=aS n:=fun s h=>cY rfl fun hne=>h (by omega)
 have hlen:(dg n.natAbs).length≤60:=dg_len.2 (jx hc);rcases Ym (n<0) with hneg | hpos
 ·have hw:=rT n (by omega) hneg
  have hw2:IntKind.u64.wrap (0-(n+18446744073709551616))=(n.natAbs:Int):=by
   rw[rT _ (by omega) (by omega)];omega
  simp only[go_sem,go_sem_proc,X8,aO,hneg,hw,hw2,decide_true];refine ae [2,3] [150002] (fun ((u,g,l):Nat × Nat × List Int) tm mem=>u≤9223372036854775808∧dg n.natAbs=l++dg u∧tm 4 = .dat (.int .u64 u)∧tm 5 = .ref 150021 g 1 0 l.length∧mem 150021=some (g,aA aa l)) (fun (u,_)=>u) (n.natAbs,0,[]) (by refine⟨by omega,rfl,?_,rfl,rfl⟩;rfl) ?_;intro vs ms hvs hms;simp only[go_sem,go_sem_proc,X8,aO] at hvs hms;subst hvs hms;rintro⟨u,g,l⟩ tm mem hk hm ⟨hu,hd,h4,h5,hm21⟩;simp only[go_sem,go_sem_proc,X8,aO,List.cons.injEq] at hk hm;obtain⟨h2,h3⟩:=hk;rcases XR u with h0 | hup
  ·subst h0
   rw[f8,Yn] at hd;rw[hd] at hs hlen;have hlen':l.length≤1000000:=by omega
   have hs':=hs (-1) (fun _=>by exact (Yo hneg).symm);simp only[go_sem,go_sem_proc,X8,aO,h2,h3,h4,h5,hm,hm21,hs',hlen',bE,Yp,Yq,Yh,show ¬ ((0:Int)>0) by omega,decide_false,ck bs,Yr]
   repeat' (first|refine qS ?_ ?_|fail)<;>intro h<;>simp only[h,go_sem,go_sem_proc,X8,aO,h2,h3,h4,h5,hm,hm21,hs',hlen',bE,Yp,Yq,Yh,show ¬ ((0:Int)>0) by omega,decide_false,ck bs,Yr]
  ·have hul:l.length≤60:=by
    have:=congrArg Ys hd;rw[Yt] at this;omega
   have hgt:decide ((u:Int)>0)=true:=decide_eq_true (by omega);have hap:∀ a:Int,kY 150021 g 1 l.length 8 1 [.dat (.int .i64 a)] (some (g,aA aa l))=_:=fun a=>c8 bs g8 150021 g 8 l a rfl (by omega) (by omega)
   have hand:=vP u ⟨by omega,by omega⟩
   have hcv:IntKind.i64.wrap ((u:Int) % 1048576)=(u:Int) % 1048576:=ak _ (by omega) (by omega);simp only[go_sem,go_sem_proc,X8,aO,h2,h3,h4,h5,hm,hm21,hgt,hap,hand,hcv,fdivm,show ((20:Int)<0)=False from by simp,if_false,Yh,List.cons.injEq]
   repeat' (first|refine qS ?_ ?_|fail)<;>intro h<;>simp only[h,go_sem,go_sem_proc,X8,aO,h2,h3,h4,h5,hm,hm21,hgt,hap,hand,hcv,fdivm,show ((20:Int)<0)=False from by simp,if_false,Yh,List.cons.injEq]
   refine⟨(u / 1048576,g+1,l++[(u:Int) % 1048576]),by dsimp only;omega,by dsimp only;omega,by dsimp only;rw[Yu,hd,jQ hup];rfl,by first | rfl | (dsimp only;rw[j5 _ ⟨by omega,by omega⟩];rfl),by simp,by simp [go_sem]⟩
 ·have hw:IntKind.u64.wrap n=(n.natAbs:Int):=by rw[j5 _ ⟨by omega,by omega⟩];omega
  simp only[go_sem,go_sem_proc,X8,aO,hpos,hw,decide_false];refine ae [2,3] [150002] (fun ((u,g,l):Nat × Nat × List Int) tm mem=>u≤9223372036854775808∧dg n.natAbs=l++dg u∧tm 4 = .dat (.int .u64 u)∧tm 5 = .ref 150021 g 1 0 l.length∧mem 150021=some (g,aA aa l)) (fun (u,_)=>u) (n.natAbs,0,[]) (by refine⟨by omega,rfl,?_,rfl,rfl⟩;rfl) ?_;intro vs ms hvs hms;simp only[go_sem,go_sem_proc,X8,aO] at hvs hms;subst hvs hms;rintro⟨u,g,l⟩ tm mem hk hm ⟨hu,hd,h4,h5,hm21⟩;simp only[go_sem,go_sem_proc,X8,aO,List.cons.injEq] at hk hm;obtain⟨h2,h3⟩:=hk;rcases XR u with h0 | hup
  ·subst h0
   rw[f8,Yn] at hd;rw[hd] at hs hlen;have hlen':l.length≤1000000:=by omega
   have hs':=hs 1 (fun _=>by exact (Yf (by omega)).symm);simp only[go_sem,go_sem_proc,X8,aO,h2,h3,h4,h5,hm,hm21,hs',hlen',bE,Yp,Yq,Yh,show ¬ ((0:Int)>0) by omega,decide_false,ck bs,Yr]
   repeat' (first|refine qS ?_ ?_|fail)<;>intro h<;>simp only[h,go_sem,go_sem_proc,X8,aO,h2,h3,h4,h5,hm,hm21,hs',hlen',bE,Yp,Yq,Yh,show ¬ ((0:Int)>0) by omega,decide_false,ck bs,Yr]
  ·have hul:l.length≤60:=by
    have:=congrArg Ys hd;rw[Yt] at this;omega
   have hgt:decide ((u:Int)>0)=true:=decide_eq_true (by omega);have hap:∀ a:Int,kY 150021 g 1 l.length 8 1 [.dat (.int .i64 a)] (some (g,aA aa l))=_:=fun a=>c8 bs g8 150021 g 8 l a rfl (by omega) (by omega)
   have hand:=vP u ⟨by omega,by omega⟩
   have hcv:IntKind.i64.wrap ((u:Int) % 1048576)=(u:Int) % 1048576:=ak _ (by omega) (by omega);simp only[go_sem,go_sem_proc,X8,aO,h2,h3,h4,h5,hm,hm21,hgt,hap,hand,hcv,fdivm,show ((20:Int)<0)=False from by simp,if_false,Yh,List.cons.injEq]
   repeat' (first|refine qS ?_ ?_|fail)<;>intro h<;>simp only[h,go_sem,go_sem_proc,X8,aO,h2,h3,h4,h5,hm,hm21,hgt,hap,hand,hcv,fdivm,show ((20:Int)<0)=False from by simp,if_false,Yh,List.cons.injEq]
   refine⟨(u / 1048576,g+1,l++[(u:Int) % 1048576]),by dsimp only;omega,by dsimp only;omega,by dsimp only;rw[Yu,hd,jQ hup];rfl,by first | rfl | (dsimp only;rw[j5 _ ⟨by omega,by omega⟩];rfl),by simp,by simp [go_sem]⟩
theorem xz (k:IntKind) (a b:Int):bits .or k a b=bits .or k b a:=by
 simp only[bits,BitVec.or_comm]
theorem NY (u d:Int) (i:Nat) (hi:(2:Int)^i≤1152921504606846976) (hu:0≤u∧u<2^i) (hd:0≤d) (h:d*2^i<18446744073709551616):bits .or .u64 u (d*2^i)=u+d*2^i:=by
 rw[xz,Int.add_comm];have h0:0≤d*2^i:=Yv hd (by exact Yw (Yx (by omega)));refine bits_join .u64 64 (by decide) (fun n h1 h2=>j5 n ⟨h1,by omega⟩) i _ _ h0 (Int.mul_emod_left _ _) (by omega) hu.1 hu.2 (by omega)
instance (n:Int):Decidable (ct n):=by unfold ct;exact inferInstance
def qw (a:Raw):Int × Bool:=if aK a=true∧ct (gH a) then (gH a,true) else (0,false)
noncomputable def vg:List Data→Option PRes:=FF (α:=Int × (List Int)) (fun (s,l)=>([.agg [.int .i64 s,.sl (l.map aa)]]:List Data)) (fun (s,l)=>aH (l.length≤1000000) (.same (.tup [.int .i64 (qw (s,l)).1,.bool (qw (s,l)).2])))
theorem yn:∀ a b:Int × (List Int),(fun (s,l)=>([.agg [.int .i64 s,.sl (l.map aa)]]:List Data)) a=(fun (s,l)=>([.agg [.int .i64 s,.sl (l.map aa)]]:List Data)) b→a=b:=by
  rintro⟨s1,l1⟩ ⟨s2,l2⟩ h;simp only[List.cons.injEq,Data.agg.injEq,Data.int.injEq,Data.sl.injEq] at h;exact X7 h.1.1.2 (af aj _ _ h.1.2.1)
@[go_sem] theorem Na (s:Int) (l:List Int) (hc:l.length≤1000000):vg [.agg [.int .i64 s,.sl (l.map aa)]]=some (.same (.tup [.int .i64 (qw (s,l)).1,.bool (qw (s,l)).2])):=(aX yn (s,l)).trans (an hc _)
theorem Iq (T:Tab) (al:T ba=mkE eh) (s:Int) (l:List Int) (hc:l.length≤1000000) :
  wp T mf_big_Int.body (bF mf_big_Int.res (.same (.tup [.int .i64 (qw (s,l)).1,.bool (qw (s,l)).2]))) ⟨ax [.dat (.agg [.int .i64 s,.sl (l.map aa)])],emp⟩:=by
 refine ap ?_;simp only[mf_big_Int]
 by_cases hr:aK (s,l)=true
 ·obtain⟨z,hz,e⟩:=(bj _).1 hr
  cases e
  have hi:qw (z.sign,dg z.natAbs)=if ct z then (z,true) else (0,false):=by
   unfold qw;rw[hr,show gH (z.sign,dg z.natAbs)=z from aU z];simp
  rw[hi];clear hi;have hs:=cC z
  by_cases h4:(dg z.natAbs).length≤4
  ·have h4':decide (((dg z.natAbs).length:Int)>4)=false:=decide_eq_false (by omega)
   have hvl:=f7 z.natAbs;have hD:=eD z.natAbs;generalize dg z.natAbs=l at *;simp only[go_sem,go_sem_proc,X8,al,hr,hc,h4',Yh,aa];refine ae [1,17,18] [159001] (fun ((i,u):Nat × Int) tm mem=>i≤l.length∧u=vl (l.take i)∧u<18446744073709551616∧tm 4 = .dat (.int .u64 u)∧tm 19 = .dat (.int .i64 i)) (fun (i,_)=>l.length-i) (0,0) (by refine⟨by omega,rfl,by omega,rfl,rfl⟩) ?_;intro vs ms hvs hms;simp only[go_sem,go_sem_proc,X8,al] at hvs hms;subst hvs hms;rintro⟨i,u⟩ tm mem hk hm ⟨hi,hu,hu64,ht4,ht19⟩;simp only[go_sem,go_sem_proc,X8,al,List.cons.injEq] at hk hm;obtain⟨h1,h17,h18⟩:=hk;have hDt:isD (l.take i):=fun d hd=>hD d (List.mem_of_mem_take hd)
   have hu0:0≤u:=by rw[hu];exact cO hDt
   rcases Ym (i<l.length) with hlt | hge
   ·have hx:=List.getElem?_eq_getElem hlt
    have hd:=hD l[i] (List.getElem_mem hlt);have hstep:=bc l i hlt;have hub:=qv hDt;rw[List.length_take,Nat.min_eq_left (Yc hlt),←hu] at hub;rw[←hu] at hstep;generalize l[i]=d at *;have hltd:decide ((i:Int)<(l.length:Int))=true:=decide_eq_true (by omega);have hwd:IntKind.u64.wrap d=d:=j5 d ⟨hd.1,by omega⟩
    have hw20:IntKind.i64.wrap (20*(i:Int))=((20*i:Nat):Int):=by rw[ak _ (by omega) (by omega)];omega
    have hmin:min (20*i) 64=20*i:=by omega
    have hn0:(((20*i:Nat):Int)<0)=False:=eq_false (by omega);have hpow:(1048576:Int)^i=2^(20*i):=by rw[Int.pow_mul];rfl
    rw[hpow] at hub hstep
    have hpl:(2:Int)^(20*i)≤1152921504606846976:=by
     obtain rfl | rfl | rfl | rfl:i=0∨i=1∨i=2∨i=3:=by omega
     all_goals decide
    by_cases hbig:i=3∧d>8
    ·obtain⟨rfl,hd8⟩:=hbig
     have hd8':decide (d>8)=true:=decide_eq_true hd8;have h33:(((3:Nat):Int)==3)=true:=rfl
     have hni:¬ ct z:=by
      have htd:=iN l 4;rw[hvl] at htd;have:0≤vl (l.drop 4):=cO fun d hd=>hD d (List.mem_of_mem_drop hd)
      have h5:=Yv (show (0:Int)≤1048576^(min 4 l.length) from Yw (Yx (by omega))) this;unfold ct;simp only[Yy,Nat.reduceAdd,Yz] at hstep;rw[hstep] at htd;omega
     rw[if_neg hni];simp only[go_sem,go_sem_proc,X8,al,h1,h17,h18,ht4,ht19,hm,hx,hd.1,hd.2,hltd,hwd,hd8',h33,Yh,YA,List.cons.injEq,aa]
     repeat' (first|refine qS ?_ ?_|fail)<;>intro h<;>simp only[h,go_sem,go_sem_proc,X8,al,h1,h17,h18,ht4,ht19,hm,hx,hd.1,hd.2,hltd,hwd,hd8',h33,Yh,YA,List.cons.injEq,aa]
    ·have hdb:d*2^(20*i)<18446744073709551616:=by
      obtain rfl | rfl | rfl | rfl:i=0∨i=1∨i=2∨i=3:=by omega
      all_goals simp
      all_goals omega
     have hor:=NY u d (20*i) hpl ⟨hu0,hub⟩ hd.1 hdb;have hdm:0≤d*2^(20*i):=Yv hd.1 (Yw (Yx (by omega)));have hwm:IntKind.u64.wrap (d*2^(20*i))=d*2^(20*i):=j5 _ ⟨hdm,hdb⟩
     have hsum:u+d*2^(20*i)<18446744073709551616:=by
      clear hor hwm hdm hw20 hn0 hpow hpl hstep;obtain rfl | rfl | rfl | rfl:i=0∨i=1∨i=2∨i=3:=by omega
      all_goals simp only[Yy,Yz] at hub hdb ⊢
      all_goals omega
     by_cases h3:((i:Int)==3)=true
     ·have hd8:decide (d>8)=false:=decide_eq_false fun h=>hbig ⟨by simp at h3;omega,h⟩
      simp only[go_sem,go_sem_proc,X8,al,h1,h17,h18,ht4,ht19,hm,hx,hd.1,hd.2,hltd,hwd,h3,hd8,hw20,hn0,if_false,YB,hmin,hwm,hor,Yh,YA,List.cons.injEq,aa]
      repeat' (first|refine qS ?_ ?_|fail)<;>intro h<;>simp only[h,go_sem,go_sem_proc,X8,al,h1,h17,h18,ht4,ht19,hm,hx,hd.1,hd.2,hltd,hwd,h3,hd8,hw20,hn0,if_false,YB,hmin,hwm,hor,Yh,YA,List.cons.injEq,aa]
      exact⟨(i+1,u+d*2^(20*i)),by dsimp only;omega,by dsimp only;omega,by dsimp only;rw[hstep,YC],hsum,rfl,by rw[ak _ (by omega) (by omega)];rfl⟩
     ·have h3:((i:Int)==3)=false:=by simpa using h3
      simp only[go_sem,go_sem_proc,X8,al,h1,h17,h18,ht4,ht19,hm,hx,hd.1,hd.2,hltd,hwd,h3,hw20,hn0,if_false,YB,hmin,hwm,hor,Yh,YA,List.cons.injEq,aa]
      repeat' (first|refine qS ?_ ?_|fail)<;>intro h<;>simp only[h,go_sem,go_sem_proc,X8,al,h1,h17,h18,ht4,ht19,hm,hx,hd.1,hd.2,hltd,hwd,h3,hw20,hn0,if_false,YB,hmin,hwm,hor,Yh,YA,List.cons.injEq,aa]
      exact⟨(i+1,u+d*2^(20*i)),by dsimp only;omega,by dsimp only;omega,by dsimp only;rw[hstep,YC],hsum,rfl,by rw[ak _ (by omega) (by omega)];rfl⟩
   ·have hltd:decide ((i:Int)<(l.length:Int))=false:=decide_eq_false (by omega)
    have hil:i=l.length:=by omega
    rw[hil,Yr,hvl] at hu;rcases hs with ⟨hs,hz0⟩ | ⟨hs,hz0⟩ | ⟨hs,hz0⟩
    ·by_cases hr64:u<9223372036854775808
     ·rw[if_pos (by unfold ct;omega)]
      have hw:IntKind.i64.wrap u=z:=by rw[ak u (by omega) (by omega)];omega
      simp only[go_sem,go_sem_proc,X8,al,h1,h17,h18,ht4,ht19,hm,hltd,hs,hr64,show decide ((1:Int)<0)=false from rfl,show decide ((1:Int)≥0)=true from rfl,show decide ((-1:Int)<0)=true from rfl,show decide ((-1:Int)≥0)=false from rfl,hw,decide_true,decide_false,Yh]
      repeat' (first|refine qS ?_ ?_|fail)<;>intro h<;>simp only[h,go_sem,go_sem_proc,X8,al,h1,h17,h18,ht4,ht19,hm,hltd,hs,hr64,show decide ((1:Int)<0)=false from rfl,show decide ((1:Int)≥0)=true from rfl,show decide ((-1:Int)<0)=true from rfl,show decide ((-1:Int)≥0)=false from rfl,hw,decide_true,decide_false,Yh]
     ·rw[if_neg (by unfold ct;omega)]
      simp only[go_sem,go_sem_proc,X8,al,h1,h17,h18,ht4,ht19,hm,hltd,hs,hr64,show decide ((1:Int)<0)=false from rfl,show decide ((1:Int)≥0)=true from rfl,show decide ((-1:Int)<0)=true from rfl,show decide ((-1:Int)≥0)=false from rfl,decide_true,decide_false,Yh]
      repeat' (first|refine qS ?_ ?_|fail)<;>intro h<;>simp only[h,go_sem,go_sem_proc,X8,al,h1,h17,h18,ht4,ht19,hm,hltd,hs,hr64,show decide ((1:Int)<0)=false from rfl,show decide ((1:Int)≥0)=true from rfl,show decide ((-1:Int)<0)=true from rfl,show decide ((-1:Int)≥0)=false from rfl,decide_true,decide_false,Yh]
    ·rw[if_pos (by unfold ct;omega)]
     have hu0':u=0:=by omega
     subst hz0;subst hu0';simp only[go_sem,go_sem_proc,X8,al,h1,h17,h18,ht4,ht19,hm,hltd,hs,show decide ((0:Int)<0)=false from rfl,show decide ((0:Int)≥0)=true from rfl,show decide ((0:Int)<9223372036854775808)=true from rfl,show IntKind.i64.wrap 0=0 from rfl,show (0:Int).sign=0 from rfl,decide_true,decide_false,Yh]
     repeat' (first|refine qS ?_ ?_|fail)<;>intro h<;>simp only[h,go_sem,go_sem_proc,X8,al,h1,h17,h18,ht4,ht19,hm,hltd,hs,show decide ((0:Int)<0)=false from rfl,show decide ((0:Int)≥0)=true from rfl,show decide ((0:Int)<9223372036854775808)=true from rfl,show IntKind.i64.wrap 0=0 from rfl,show (0:Int).sign=0 from rfl,decide_true,decide_false,Yh]
    ·by_cases hr64:u≤9223372036854775808
     ·rw[if_pos (by unfold ct;omega)]
      have hw:=rT (0-u) (by omega) (by omega)
      have hw2:IntKind.i64.wrap (0-u+18446744073709551616)=z:=by
       simp [IntKind.wrap,IntKind.bits,IntKind.signed];omega
      simp only[go_sem,go_sem_proc,X8,al,h1,h17,h18,ht4,ht19,hm,hltd,hs,hr64,show decide ((1:Int)<0)=false from rfl,show decide ((1:Int)≥0)=true from rfl,show decide ((-1:Int)<0)=true from rfl,show decide ((-1:Int)≥0)=false from rfl,hw,hw2,decide_true,decide_false,Yh]
      repeat' (first|refine qS ?_ ?_|fail)<;>intro h<;>simp only[h,go_sem,go_sem_proc,X8,al,h1,h17,h18,ht4,ht19,hm,hltd,hs,hr64,show decide ((1:Int)<0)=false from rfl,show decide ((1:Int)≥0)=true from rfl,show decide ((-1:Int)<0)=true from rfl,show decide ((-1:Int)≥0)=false from rfl,hw,hw2,decide_true,decide_false,Yh]
     ·rw[if_neg (by unfold ct;omega)]
      simp only[go_sem,go_sem_proc,X8,al,h1,h17,h18,ht4,ht19,hm,hltd,hs,hr64,show decide ((1:Int)<0)=false from rfl,show decide ((1:Int)≥0)=true from rfl,show decide ((-1:Int)<0)=true from rfl,show decide ((-1:Int)≥0)=false from rfl,decide_true,decide_false,Yh]
      repeat' (first|refine qS ?_ ?_|fail)<;>intro h<;>simp only[h,go_sem,go_sem_proc,X8,al,h1,h17,h18,ht4,ht19,hm,hltd,hs,hr64,show decide ((1:Int)<0)=false from rfl,show decide ((1:Int)≥0)=true from rfl,show decide ((-1:Int)<0)=true from rfl,show decide ((-1:Int)≥0)=false from rfl,decide_true,decide_false,Yh]
  ·have h4':decide (((dg z.natAbs).length:Int)>4)=true:=decide_eq_true (by omega)
   have hn:¬ ct z:=by
    intro h;unfold ct at h;refine h4 (dg_len.2 ?_);omega
   rw[if_neg hn];simp only[go_sem,go_sem_proc,X8,al,hr,hc,h4',Yh]
   repeat' (first|refine qS ?_ ?_|fail)<;>intro h<;>simp only[h,go_sem,go_sem_proc,X8,al,hr,hc,h4',Yh]
 ·have hr:aK (s,l)=false:=by simpa using hr
  have hi:qw (s,l)=(0,false):=by unfold qw;rw[if_neg];rw[hr];simp
  rw[hi];simp only[go_sem,go_sem_proc,X8,al,hr,hc]
  repeat' (first|refine qS ?_ ?_|fail)<;>intro h<;>simp only[h,go_sem,go_sem_proc,X8,al,hr,hc]
def mf_frac_Right:MFunc :=
 { n:=35,np:=1,res:=[.t 2],body :=
 (.seq (.ops [
 Zk 1 116001 0,Zb 2 false])
 (.seq (.seq (.ops [
 Zf 5 0 1,Zu 6 2 5,⟨some 7,none,.call ba [(.t 6)]⟩,Zt 8 7,Zv 9 8,⟨some 10,some (9,false),.fad 2 (.t 1)⟩,⟨some 11,some (9,false),.load 2 true (.t 10)⟩,⟨some 12,some (9,false),.call ba [(.t 11)]⟩,⟨some 13,some (9,false),.un .not (.t 12)⟩,Zp 14 9 13,Zv 15 14,⟨some 16,some (15,false),.fad 2 (.t 1)⟩,⟨some 17,some (15,false),.fad 0 (.t 16)⟩,⟨some 18,some (15,false),.load 1 false (.t 17)⟩,⟨some 19,some (15,false),.bin .neq (.t 18) (.c (ZI 1))⟩,Zp 20 15 19])
 (.cond (.t 20)
 (.seq (.ops [
 Zb 2 false])
 .ret)
 .skip))
 (.seq (.ops [
 Zf 22 0 1,Zu 23 2 22,Zf 24 2 1,Zu 25 2 24,⟨some 26,none,.call kR [(.t 23),(.t 25)]⟩,Zv 21 26,Zx 27 0 21,Zx 28 1 21,⟨some 3,none,.alloc 116003 [(ZI 0),.nil]⟩,Zs 2 3 27,Zv 4 28])
 (.seq (.ops [
 Zv 29 4,Zc 30 .eql 29 0,Zv 31 30,⟨some 32,some (31,true),.load 2 true (.t 3)⟩,⟨some 33,some (31,true),.call nB [(.t 32)]⟩,Zq 34 31 33,Zv 2 34])
 .ret)))) }
def mf_frac_Add:MFunc :=
 { n:=46,np:=2,res:=[.cell 4 4 true,.t 5],body :=
 (.seq (.ops [
 Zk 2 119002 0,Zk 3 119003 1,⟨some 4,none,.alloc 119004 [(ZI 0),.nil,(ZI 0),.nil]⟩,Zi 5 0])
 (.seq (.seq (.ops [
 Zu 10 4 2,⟨some 11,none,.call aT [(.t 10)]⟩,Zt 12 11,Zv 13 12,⟨some 14,some (13,false),.load 4 true (.t 3)⟩,⟨some 15,some (13,false),.call aT [(.t 14)]⟩,⟨some 16,some (13,false),.un .not (.t 15)⟩,Zp 17 13 16])
 (.cond (.t 17)
 (.seq (.ops [
 ⟨some 18,none,.build [(ZI 0),.nil,(ZI 0),.nil] []⟩,Zs 4 4 18,Zi 5 1])
 .ret)
 .skip))
 (.seq (.ops [
 Zf 20 0 2,Zu 21 2 20,Zf 22 2 3,Zu 23 2 22,Zf 24 0 3,Zu 25 2 24,Zf 26 2 2,Zu 27 2 26,⟨some 28,none,.call n0 [(.t 21),(.t 23),(.t 25),(.t 27)]⟩,Zv 19 28,Zx 29 0 19,Zx 30 1 19,⟨some 6,none,.alloc 119006 [(ZI 0),.nil]⟩,Zs 2 6 29,Zv 7 30])
 (.seq (.ops [
 Zf 32 2 2,Zu 33 2 32,Zf 34 2 3,Zu 35 2 34,⟨some 36,none,.call dM [(.t 33),(.t 35)]⟩,Zv 31 36,Zx 37 0 31,Zx 38 1 31,⟨some 8,none,.alloc 119008 [(ZI 0),.nil]⟩,Zs 2 8 37,Zv 9 38])
 (.seq (.ops [
 Zu 39 2 6,Zv 40 7,Zu 41 2 8,Zv 42 9,⟨some 43,none,.call dz [(.t 39),(.t 40),(.t 41),(.t 42)]⟩,Zx 44 0 43,Zx 45 1 43,Zs 4 4 44,Zv 5 45])
 .ret))))) }
def mf_frac_Of:MFunc :=
 { n:=13,np:=2,res:=[.cell 4 4 true,.t 5],body :=
 (.seq (.ops [
 ⟨some 4,none,.alloc 130004 [(ZI 0),.nil,(ZI 0),.nil]⟩,Zi 5 0])
 (.seq (.ops [
 Zv 6 0,⟨some 7,none,.call oy [(.t 6)]⟩,Zv 8 1,⟨some 9,none,.call oy [(.t 8)]⟩,⟨some 10,none,.call jB [(.t 7),(.t 9)]⟩,Zx 11 0 10,Zx 12 1 10,Zs 4 4 11,Zv 5 12])
 .ret)) }
def mf_frac_Sub:MFunc :=
 { n:=25,np:=2,res:=[.cell 4 4 true,.t 5],body :=
 (.seq (.ops [
 Zk 2 132002 0,Zk 3 132003 1,⟨some 4,none,.alloc 132004 [(ZI 0),.nil,(ZI 0),.nil]⟩,Zi 5 0])
 (.seq (.seq (.ops [
 Zu 6 4 2,⟨some 7,none,.call aT [(.t 6)]⟩,Zt 8 7,Zv 9 8,⟨some 10,some (9,false),.load 4 true (.t 3)⟩,⟨some 11,some (9,false),.call aT [(.t 10)]⟩,⟨some 12,some (9,false),.un .not (.t 11)⟩,Zp 13 9 12])
 (.cond (.t 13)
 (.seq (.ops [
 ⟨some 14,none,.build [(ZI 0),.nil,(ZI 0),.nil] []⟩,Zs 4 4 14,Zi 5 1])
 .ret)
 .skip))
 (.seq (.opsD [
 Zu 15 4 2,Zf 16 0 3,Zu 17 2 16,⟨some 18,none,.call jo [(.t 17)]⟩,Zf 19 2 3,Zu 20 2 19,⟨some 21,none,.build [(ZI 0),.nil,(ZI 0),.nil] [(0,2,(.t 18)),(2,2,(.t 20))]⟩,⟨some 22,none,.call dU [(.t 15),(.t 21)]⟩,Zx 23 0 22,Zx 24 1 22,Zs 4 4 23,Zv 5 24] [[],[],[],[],[],[],[],[],[],[],[],[]])
 .ret))) }
def mf_frac_Mul:MFunc :=
 { n:=42,np:=2,res:=[.cell 4 4 true,.t 5],body :=
 (.seq (.ops [
 Zk 2 134002 0,Zk 3 134003 1,⟨some 4,none,.alloc 134004 [(ZI 0),.nil,(ZI 0),.nil]⟩,Zi 5 0])
 (.seq (.seq (.ops [
 Zu 10 4 2,⟨some 11,none,.call aT [(.t 10)]⟩,Zt 12 11,Zv 13 12,⟨some 14,some (13,false),.load 4 true (.t 3)⟩,⟨some 15,some (13,false),.call aT [(.t 14)]⟩,⟨some 16,some (13,false),.un .not (.t 15)⟩,Zp 17 13 16])
 (.cond (.t 17)
 (.seq (.ops [
 ⟨some 18,none,.build [(ZI 0),.nil,(ZI 0),.nil] []⟩,Zs 4 4 18,Zi 5 1])
 .ret)
 .skip))
 (.seq (.ops [
 Zf 20 0 2,Zu 21 2 20,Zf 22 0 3,Zu 23 2 22,⟨some 24,none,.call dM [(.t 21),(.t 23)]⟩,Zv 19 24,Zx 25 0 19,Zx 26 1 19,⟨some 6,none,.alloc 134006 [(ZI 0),.nil]⟩,Zs 2 6 25,Zv 7 26])
 (.seq (.ops [
 Zf 28 2 2,Zu 29 2 28,Zf 30 2 3,Zu 31 2 30,⟨some 32,none,.call dM [(.t 29),(.t 31)]⟩,Zv 27 32,Zx 33 0 27,Zx 34 1 27,⟨some 8,none,.alloc 134008 [(ZI 0),.nil]⟩,Zs 2 8 33,Zv 9 34])
 (.seq (.ops [
 Zu 35 2 6,Zv 36 7,Zu 37 2 8,Zv 38 9,⟨some 39,none,.call dz [(.t 35),(.t 36),(.t 37),(.t 38)]⟩,Zx 40 0 39,Zx 41 1 39,Zs 4 4 40,Zv 5 41])
 .ret))))) }
def mf_frac_Compare:MFunc :=
 { n:=78,np:=2,res:=[.t 4],body :=
 (.seq (.ops [
 Zk 2 135002 0,Zk 3 135003 1,Zi 4 0])
 (.seq (.seq (.ops [
 Zu 17 4 2,⟨some 18,none,.call aT [(.t 17)]⟩,Zt 19 18,Zv 20 19,⟨some 21,some (20,false),.load 4 true (.t 3)⟩,⟨some 22,some (20,false),.call aT [(.t 21)]⟩,⟨some 23,some (20,false),.un .not (.t 22)⟩,Zp 24 20 23])
 (.cond (.t 24)
 (.seq (.ops [
 Zi 4 0])
 .ret)
 .skip))
 (.seq (.opsD [
 Zf 25 0 2,Zu 26 2 25,Zf 27 2 2,Zu 28 2 27,Zf 29 0 3,Zu 30 2 29,Zf 31 2 3,Zu 32 2 31,⟨some 5,none,.alloc 135005 [(ZI 0),.nil]⟩,⟨some 6,none,.alloc 135006 [(ZI 0),.nil]⟩,⟨some 7,none,.alloc 135007 [(ZI 0),.nil]⟩,⟨some 8,none,.alloc 135008 [(ZI 0),.nil]⟩,Zs 2 5 26,Zs 2 6 28,Zs 2 7 30,Zs 2 8 32] [[],[],[],[],[],[],[],[],[1,3,5,7],[1,3,5,7,8],[1,3,5,7,8,9],[1,3,5,7,8,9,10],[3,5,7],[5,7],[7],[]])
 (.seq (.ops [
 Zi 9 1])
 (.block 0
 (.loop
 (.seq (.block 1
 (.seq (.ops [
 Zu 36 2 5,Zu 37 2 6,⟨some 38,none,.call iu [(.t 36),(.t 37)]⟩,Zv 35 38,Zx 39 0 35,Zx 40 1 35,Zx 41 2 35,⟨some 10,none,.alloc 135010 [(ZI 0),.nil]⟩,⟨some 11,none,.alloc 135011 [(ZI 0),.nil]⟩,Zs 2 10 39,Zs 2 11 40,Zv 12 41])
 (.seq (.ops [
 Zu 43 2 7,Zu 44 2 8,⟨some 45,none,.call iu [(.t 43),(.t 44)]⟩,Zv 42 45,Zx 46 0 42,Zx 47 1 42,Zx 48 2 42,⟨some 13,none,.alloc 135013 [(ZI 0),.nil]⟩,⟨some 14,none,.alloc 135014 [(ZI 0),.nil]⟩,Zs 2 13 46,Zs 2 14 47,Zv 15 48])
 (.seq (.seq (.ops [
 Zu 49 2 10,Zu 50 2 13,⟨some 51,none,.call kt [(.t 49),(.t 50)]⟩,Zv 16 51])
 (.block 2
 (.seq (.ops [
 Zv 53 16,Zc 54 .neq 53 0,Zv 52 54])
 (.cond (.t 52)
 (.seq (.ops [
 Zv 55 9,Zv 56 16,Zo 57 .mul 55 56,Zv 4 57])
 .ret)
 (.seq (.ops [
 Zf 59 0 11,Zl 60 1 59,Zc 61 .eql 60 0,Zv 62 61,⟨some 63,some (62,false),.fad 0 (.t 14)⟩,⟨some 64,some (62,false),.load 1 false (.t 63)⟩,⟨some 65,some (62,false),.bin .eql (.t 64) (.c (ZI 0))⟩,Zp 66 62 65,Zv 58 66])
 (.cond (.t 58)
 (.seq (.ops [
 Zv 67 9,Zf 68 0 11,Zl 69 1 68,Zf 70 0 14,Zl 71 1 70,Zo 72 .sub 69 71,Zo 73 .mul 67 72,Zv 4 73])
 .ret)
 .skip))))))
 (.opsD [
 Zu 74 2 6,Zu 75 2 11,Zu 76 2 8,Zu 77 2 14,Zs 2 5 74,Zs 2 6 75,Zs 2 7 76,Zs 2 8 77] [[],[],[],[],[1,2,3],[2,3],[3],[]])))))
 (.ops [
 Zv 33 9,⟨some 34,none,.un .neg (.t 33)⟩,Zv 9 34])))))))) }
def mf_frac_one:MFunc :=
 { n:=15,np:=1,res:=[.t 2],body :=
 (.seq (.ops [
 Zk 1 138001 0,Zb 2 false])
 (.seq (.ops [
 Zu 6 2 1,⟨some 7,none,.call pC [(.t 6)]⟩,Zv 5 7,Zx 8 0 5,Zx 9 1 5,Zv 3 8,Zv 4 9])
 (.seq (.ops [
 Zv 10 4,Zv 11 10,⟨some 12,some (11,true),.mv (.t 3)⟩,⟨some 13,some (11,true),.bin .eql (.t 12) (.c (ZI 1))⟩,Zq 14 11 13,Zv 2 14])
 .ret))) }
def mf_frac_sum:MFunc :=
 { n:=38,np:=4,res:=[.cell 8 2 true,.t 9],body :=
 (.seq (.ops [
 Zk 4 139004 0,Zk 5 139005 1,Zk 6 139006 2,Zk 7 139007 3,⟨some 8,none,.alloc 139008 [(ZI 0),.nil]⟩,Zi 9 0])
 (.seq (.ops [
 Zu 14 2 4,Zu 15 2 5,⟨some 16,none,.call dM [(.t 14),(.t 15)]⟩,Zv 13 16,Zx 17 0 13,Zx 18 1 13,⟨some 10,none,.alloc 139010 [(ZI 0),.nil]⟩,Zs 2 10 17,Zv 11 18])
 (.seq (.seq (.ops [
 Zv 19 11,Zc 20 .neq 19 0])
 (.cond (.t 20)
 (.seq (.ops [
 ⟨some 21,none,.build [(ZI 0),.nil] []⟩,Zv 22 11,Zs 2 8 21,Zv 9 22])
 .ret)
 .skip))
 (.seq (.ops [
 Zu 24 2 6,Zu 25 2 7,⟨some 26,none,.call dM [(.t 24),(.t 25)]⟩,Zv 23 26,Zx 27 0 23,Zx 28 1 23,⟨some 12,none,.alloc 139012 [(ZI 0),.nil]⟩,Zs 2 12 27,Zv 11 28])
 (.seq (.seq (.ops [
 Zv 29 11,Zc 30 .neq 29 0])
 (.cond (.t 30)
 (.seq (.ops [
 ⟨some 31,none,.build [(ZI 0),.nil] []⟩,Zv 32 11,Zs 2 8 31,Zv 9 32])
 .ret)
 .skip))
 (.seq (.ops [
 Zu 33 2 10,Zu 34 2 12,⟨some 35,none,.call o0 [(.t 33),(.t 34)]⟩,Zx 36 0 35,Zx 37 1 35,Zs 2 8 36,Zv 9 37])
 .ret)))))) }
def mf_frac_quotient:MFunc :=
 { n:=22,np:=4,res:=[.cell 8 4 true,.t 9],body :=
 (.seq (.ops [
 Zk 4 141004 0,Zk 6 141006 2,⟨some 8,none,.alloc 141008 [(ZI 0),.nil,(ZI 0),.nil]⟩,Zi 9 0])
 (.seq (.seq (.ops [
 Zv 10 1,Zc 11 .neq 10 0,Zv 12 11,⟨some 13,some (12,false),.mv (.t 3)⟩,⟨some 14,some (12,false),.bin .neq (.t 13) (.c (ZI 0))⟩,Zp 15 12 14])
 (.cond (.t 15)
 (.seq (.ops [
 ⟨some 16,none,.build [(ZI 0),.nil,(ZI 0),.nil] []⟩,Zs 4 8 16,Zi 9 6])
 .ret)
 .skip))
 (.seq (.ops [
 Zu 17 2 4,Zu 18 2 6,⟨some 19,none,.call jB [(.t 17),(.t 18)]⟩,Zx 20 0 19,Zx 21 1 19,Zs 4 8 20,Zv 9 21])
 .ret))) }
def mf_frac_New:MFunc :=
 { n:=60,np:=2,res:=[.cell 4 4 true,.t 5],body :=
 (.seq (.ops [
 Zk 2 149002 0,Zk 3 149003 1,⟨some 4,none,.alloc 149004 [(ZI 0),.nil,(ZI 0),.nil]⟩,Zi 5 0])
 (.seq (.block 0
 (.seq (.ops [
 Zu 15 2 2,⟨some 16,none,.call ba [(.t 15)]⟩,Zt 17 16,Zv 18 17,⟨some 19,some (18,false),.load 2 true (.t 3)⟩,⟨some 20,some (18,false),.call ba [(.t 19)]⟩,⟨some 21,some (18,false),.un .not (.t 20)⟩,Zp 22 18 21,Zv 14 22])
 (.cond (.t 14)
 (.seq (.ops [
 ⟨some 23,none,.build [(ZI 0),.nil,(ZI 0),.nil] []⟩,Zs 4 4 23,Zi 5 1])
 .ret)
 (.seq (.ops [
 Zf 25 0 3,Zl 26 1 25,Zc 27 .eql 26 0,Zv 24 27])
 (.cond (.t 24)
 (.seq (.ops [
 ⟨some 28,none,.build [(ZI 0),.nil,(ZI 0),.nil] []⟩,Zs 4 4 28,Zi 5 15])
 .ret)
 (.seq (.ops [
 Zf 30 0 3,Zl 31 1 30,Zc 32 .lss 31 0,Zv 29 32])
 (.cond (.t 29)
 (.opsD [
 Zu 33 2 2,⟨some 34,none,.call jo [(.t 33)]⟩,Zu 35 2 3,⟨some 36,none,.call jo [(.t 35)]⟩,Zs 2 2 34,Zs 2 3 36] [[],[],[],[],[],[]])
 .skip)))))))
 (.seq (.ops [
 Zu 38 2 2,Zu 39 2 3,⟨some 40,none,.call kR [(.t 38),(.t 39)]⟩,Zv 37 40,Zx 41 0 37,Zx 42 1 37,⟨some 6,none,.alloc 149006 [(ZI 0),.nil]⟩,Zs 2 6 41,Zv 7 42])
 (.seq (.ops [
 Zu 44 2 2,Zu 45 2 6,⟨some 46,none,.call iu [(.t 44),(.t 45)]⟩,Zv 43 46,Zx 47 0 43,Zx 48 1 43,Zx 49 2 43,⟨some 8,none,.alloc 149008 [(ZI 0),.nil]⟩,⟨some 9,none,.alloc 149009 [(ZI 0),.nil]⟩,Zs 2 8 47,Zs 2 9 48,Zv 10 49])
 (.seq (.ops [
 Zu 51 2 3,Zu 52 2 6,⟨some 53,none,.call iu [(.t 51),(.t 52)]⟩,Zv 50 53,Zx 54 0 50,Zx 55 1 50,Zx 56 2 50,⟨some 11,none,.alloc 149011 [(ZI 0),.nil]⟩,⟨some 12,none,.alloc 149012 [(ZI 0),.nil]⟩,Zs 2 11 54,Zs 2 12 55,Zv 13 56])
 (.seq (.ops [
 Zu 57 2 8,Zu 58 2 11,⟨some 59,none,.build [(ZI 0),.nil,(ZI 0),.nil] [(0,2,(.t 57)),(2,2,(.t 58))]⟩,Zs 4 4 59,Zi 5 0])
 .ret)))))) }
def mf_frac_Div:MFunc :=
 { n:=49,np:=2,res:=[.cell 4 4 true,.t 5],body :=
 (.seq (.ops [
 Zk 2 169002 0,Zk 3 169003 1,⟨some 4,none,.alloc 169004 [(ZI 0),.nil,(ZI 0),.nil]⟩,Zi 5 0])
 (.seq (.block 0
 (.seq (.ops [
 Zu 11 4 2,⟨some 12,none,.call aT [(.t 11)]⟩,Zt 13 12,Zv 14 13,⟨some 15,some (14,false),.load 4 true (.t 3)⟩,⟨some 16,some (14,false),.call aT [(.t 15)]⟩,⟨some 17,some (14,false),.un .not (.t 16)⟩,Zp 18 14 17,Zv 10 18])
 (.cond (.t 10)
 (.seq (.ops [
 ⟨some 19,none,.build [(ZI 0),.nil,(ZI 0),.nil] []⟩,Zs 4 4 19,Zi 5 1])
 .ret)
 (.seq (.ops [
 Zf 21 0 3,Zf 22 0 21,Zl 23 1 22,Zc 24 .eql 23 0,Zv 20 24])
 (.cond (.t 20)
 (.seq (.ops [
 ⟨some 25,none,.build [(ZI 0),.nil,(ZI 0),.nil] []⟩,Zs 4 4 25,Zi 5 15])
 .ret)
 .skip)))))
 (.seq (.ops [
 Zf 27 0 2,Zu 28 2 27,Zf 29 2 3,Zu 30 2 29,⟨some 31,none,.call dM [(.t 28),(.t 30)]⟩,Zv 26 31,Zx 32 0 26,Zx 33 1 26,⟨some 6,none,.alloc 169006 [(ZI 0),.nil]⟩,Zs 2 6 32,Zv 7 33])
 (.seq (.ops [
 Zf 35 2 2,Zu 36 2 35,Zf 37 0 3,Zu 38 2 37,⟨some 39,none,.call dM [(.t 36),(.t 38)]⟩,Zv 34 39,Zx 40 0 34,Zx 41 1 34,⟨some 8,none,.alloc 169008 [(ZI 0),.nil]⟩,Zs 2 8 40,Zv 9 41])
 (.seq (.ops [
 Zu 42 2 6,Zv 43 7,Zu 44 2 8,Zv 45 9,⟨some 46,none,.call dz [(.t 42),(.t 43),(.t 44),(.t 45)]⟩,Zx 47 0 46,Zx 48 1 46,Zs 4 4 47,Zv 5 48])
 .ret))))) }
abbrev aJ:=Raw × Raw
def ad (f:aJ):List Data:=[.int .i64 f.1.1,.sl (f.1.2.map aa),.int .i64 f.2.1,.sl (f.2.2.map aa)]
def bw (x:aJ × Int):Data:=.tup [.agg (ad x.1),.int .i64 x.2]
def ai (x:Rat):aJ:=(aS x.num,aS x.den)
def cn (x:Rat):Prop:=x.num.natAbs<LIM∧x.den<LIM
def cb:aJ:=((0,[]),(0,[]))
def bf (f:aJ):Bool:=aK f.1&&(aK f.2&&(f.2.1==1&&(YD (gH f.1).natAbs (gH f.2).natAbs==1)))
def pr (f:aJ):Rat:=YE (gH f.1) (gH f.2)
theorem kv (x:Rat):pr (ai x)=x:=by
 unfold pr ai;rw[aU,aU,YF]
theorem tf {x y:Rat} (h:ai x=ai y):x=y:=by rw[←kv x,h,kv]
theorem den_pos (x:Rat):0<(x.den:Int):=Int.natCast_pos.2 x.den_pos
theorem Jr {n:Int} (h:0<n):(aS n).1=1:=Yf h
theorem kH (f:aJ):bf f=true↔∃ x,cn x∧f=ai x:=by
 unfold bf;simp only[YG,beq_iff_eq]
 constructor
 ·rintro⟨h1,h2,h3,h4⟩
  obtain⟨p,hp,e1⟩:=(bj _).1 h1;obtain⟨q,hq,e2⟩:=(bj _).1 h2;obtain⟨f1,f2⟩:=f;simp only at e1 e2 h3 h4;subst e1 e2;rw[aU,aU] at h4
  have hqp:0<q:=by
   rcases cC q with ⟨_,h⟩ | ⟨e,_⟩ | ⟨e,_⟩
   ·exact h
   ·have:q.sign=1:=h3;omega
   ·have:q.sign=1:=h3;omega
  refine⟨⟨p,q.natAbs,by omega,h4⟩,⟨hp,hq⟩,?_⟩
  unfold ai;rw[show ((q.natAbs:Nat):Int)=q by omega]
 ·rintro⟨x,⟨h1,h2⟩,rfl⟩
  have hd:(x.den:Int).natAbs<LIM:=by rw[X6];exact h2
  refine⟨bM h1,bM hd,Jr (den_pos x),?_⟩;unfold ai;rw[aU,aU,X6];exact x.reduced
theorem eQ {x:Rat} (h:cn x):bf (ai x)=true:=(kH _).2 ⟨x,h,rfl⟩
theorem tg {x:Rat} (h:cn x):(x.den:Int).natAbs<LIM:=by rw[X6];exact h.2
theorem eX {z:Int} (h:z.natAbs<LIM):(dg z.natAbs).length≤1000000:=by have:=fM h;omega
def B9 (a:Raw):Bool:=(qw a).2&&((qw a).1==1)
theorem Ke {z:Int} (h:z.natAbs<LIM):B9 (aS z)=decide (z=1):=by
 unfold B9 qw;rw[bM h,aU]
 by_cases hi:ct z
 ·rw[if_pos ⟨rfl,hi⟩]
  simp only[YH]
  rfl
 ·rw[if_neg fun h=>hi h.2]
  have:z≠1:=by rintro rfl;exact hi (by unfold ct;omega)
  simp [this]
noncomputable def DO:List Data→Option PRes:=FF (α:=Int × (List Int)) (fun (s,l)=>([.agg [.int .i64 s,.sl (l.map aa)]]:List Data)) (fun (s,l)=>aH (l.length≤1000000) (.same (.bool (B9 (s,l)))))
theorem Dq:∀ a b:Int × (List Int),(fun (s,l)=>([.agg [.int .i64 s,.sl (l.map aa)]]:List Data)) a=(fun (s,l)=>([.agg [.int .i64 s,.sl (l.map aa)]]:List Data)) b→a=b:=by
  rintro⟨s1,l1⟩ ⟨s2,l2⟩ h;simp only[List.cons.injEq,Data.agg.injEq,Data.int.injEq,Data.sl.injEq] at h;exact X7 h.1.1.2 (af aj _ _ h.1.2.1)
@[go_sem] theorem Pq (s:Int) (l:List Int) (hc:l.length≤1000000):DO [.agg [.int .i64 s,.sl (l.map aa)]]=some (.same (.bool (B9 (s,l)))):=(aX Dq (s,l)).trans (an hc _)
theorem OP (T:Tab) (qz:T pC=mkE vg) (s:Int) (l:List Int) (hc:l.length≤1000000) :
  wp T mf_frac_one.body (bF mf_frac_one.res (.same (.bool (B9 (s,l))))) ⟨ax [.dat (.agg [.int .i64 s,.sl (l.map aa)])],emp⟩:=by
 refine ap ?_;simp only[mf_frac_one];unfold B9;rcases h:(qw (s,l)).2
 ·simp only[go_sem,go_sem_proc,X8,qz,hc,h]
  repeat' (first|refine qS ?_ ?_|fail)<;>intro h<;>simp only[h,go_sem,go_sem_proc,X8,qz,hc,h]
 ·simp only[go_sem,go_sem_proc,X8,qz,hc,h]
  repeat' (first|refine qS ?_ ?_|fail)<;>intro h<;>simp only[h,go_sem,go_sem_proc,X8,qz,hc,h]
noncomputable def ff:List Data→Option PRes:=FF (α:=Int × (List Int) × Int × (List Int)) (fun (s,l,s2,l2)=>([.agg [.int .i64 s,.sl (l.map aa),.int .i64 s2,.sl (l2.map aa)]]:List Data)) (fun (s,l,s2,l2)=>aH (l.length≤1000000∧l2.length≤1000000) (.same (.bool (bf ((s,l),(s2,l2))))))
theorem yV:∀ a b:Int × (List Int) × Int × (List Int),(fun (s,l,s2,l2)=>([.agg [.int .i64 s,.sl (l.map aa),.int .i64 s2,.sl (l2.map aa)]]:List Data)) a=(fun (s,l,s2,l2)=>([.agg [.int .i64 s,.sl (l.map aa),.int .i64 s2,.sl (l2.map aa)]]:List Data)) b→a=b:=by
  rintro⟨s1,l1,s21,l21⟩ ⟨s2,l2,s22,l22⟩ h;simp only[List.cons.injEq,Data.agg.injEq,Data.int.injEq,Data.sl.injEq] at h;exact X7 h.1.1.2 (X7 (af aj _ _ h.1.2.1) (X7 h.1.2.2.1.2 (af aj _ _ h.1.2.2.2.1)))
@[go_sem] theorem z8 (s:Int) (l:List Int) (s2:Int) (l2:List Int) (hc:l.length≤1000000∧l2.length≤1000000):ff [.agg [.int .i64 s,.sl (l.map aa),.int .i64 s2,.sl (l2.map aa)]]=some (.same (.bool (bf ((s,l),(s2,l2))))):=(aX yV (s,l,s2,l2)).trans (an hc _)
theorem Jf (T:Tab) (al:T ba=mkE eh) (oO:T kR=mkE El) (xJ:T nB=mkE DO) (s:Int) (l:List Int) (s2:Int) (l2:List Int) (hc:l.length≤1000000∧l2.length≤1000000) :
  wp T mf_frac_Right.body (bF mf_frac_Right.res (.same (.bool (bf ((s,l),(s2,l2)))))) ⟨ax [.dat (.agg [.int .i64 s,.sl (l.map aa),.int .i64 s2,.sl (l2.map aa)])],emp⟩:=by
 refine ap ?_;simp only[mf_frac_Right];obtain⟨hl1,hl2⟩:=hc
 by_cases hr:aK (s,l)=true
 ·by_cases hr2:aK (s2,l2)=true
  ·by_cases hs:s2=1
   ·obtain⟨x,hx,e⟩:=(bj _).1 hr
    obtain⟨y,hy,e2⟩:=(bj _).1 hr2
    have hg:kg (s,l) (s2,l2)=(aS ((YD x.natAbs y.natAbs:Nat):Int),0):=by
     unfold kg;rw[hr,hr2,e,e2,aU,aU];rfl
    have hgl:=pU hx hy
    have ho:B9 (aS ((YD x.natAbs y.natAbs:Nat):Int))=(YD x.natAbs y.natAbs==1):=by
     rw[Ke (by rw[X6];exact hgl)];rw[Bool.eq_iff_iff];simp;omega
    have hv1:gH (s,l)=x:=by rw[e,aU]
    have hv2:gH (s2,l2)=y:=by rw[e2,aU]
    have hR:bf ((s,l),(s2,l2))=(YD x.natAbs y.natAbs==1):=by
     show (aK (s,l)&&(aK (s2,l2)&&((s2==1)&&(YD (gH (s,l)).natAbs (gH (s2,l2)).natAbs==1))))=_;rw[hr,hr2,hv1,hv2,show (s2==1)=true by simpa using hs]
     simp only[YH]
    have hgl2:((aS ((YD x.natAbs y.natAbs:Nat):Int)).2).length≤1000000:=eX (by rw[X6];exact hgl);rw[hR,←ho];generalize aS ((YD x.natAbs y.natAbs:Nat):Int)=G at *;obtain⟨g1,g2⟩:=G;have hs':(s2==1)=true:=by simpa using hs
    refine qI ?_
    repeat' (intro h<;>simp only[h,go_sem,go_sem_proc,X8,al,oO,xJ,hr,hr2,hl1,hl2,hs',hg,hgl2,dP,bE,show ((0:Int)==0)=true from rfl]<;>try refine qS ?_ ?_)
   ·have hR:bf ((s,l),(s2,l2))=false:=by unfold bf;simp [hs]
    have hs':(s2==1)=false:=by simpa using hs
    rw[hR];refine qI ?_
    repeat' (intro h<;>simp only[h,go_sem,go_sem_proc,X8,al,oO,xJ,hr,hr2,hl1,hl2,hs']<;>try refine qS ?_ ?_)
  ·have hr2:aK (s2,l2)=false:=by simpa using hr2
   have hR:bf ((s,l),(s2,l2))=false:=by unfold bf;simp [hr2]
   rw[hR];refine qI ?_
   repeat' (intro h<;>simp only[h,go_sem,go_sem_proc,X8,al,oO,xJ,hr,hr2,hl1,hl2]<;>try refine qS ?_ ?_)
 ·have hr:aK (s,l)=false:=by simpa using hr
  have hR:bf ((s,l),(s2,l2))=false:=by unfold bf;simp [hr]
  rw[hR];refine qI ?_
  repeat' (intro h<;>simp only[h,go_sem,go_sem_proc,X8,al,oO,xJ,hr,hl1,hl2]<;>try refine qS ?_ ?_)
def fP (p q:Raw):aJ × Int :=
 if (aK p&&aK q)=true then (if gH q=0 then (cb,15) else (ai (YE (gH p) (gH q)),0)) else (cb,1)
theorem iK {p q:Int} (hp:p.natAbs<LIM) (hq:q.natAbs<LIM) (h0:q≠0):fP (aS p) (aS q)=(ai (YE p q),0):=by
 unfold fP;rw[bM hp,bM hq,aU,aU,if_pos (by rfl),if_neg h0]
theorem mY {p q:Int} (hq:0<q):(YE p q).num=p.fdiv ((YD p.natAbs q.natAbs:Nat):Int)∧((YE p q).den:Int)=q.fdiv ((YD p.natAbs q.natAbs:Nat):Int):=by
 rw[Rat.num_divInt,Rat.den_divInt,if_neg (by omega),Yf hq,XY];have hg:q.gcd p=YD p.natAbs q.natAbs:=by rw[Int.gcd_comm];rfl
 rw[hg];have h0:(0:Int)≤((YD p.natAbs q.natAbs:Nat):Int):=Int.natCast_nonneg _;rw[YI _ h0,YI _ h0];refine⟨rfl,?_⟩;rw[Int.natCast_ediv]
 congr 1
 omega
theorem uo {p q:Int} (hq:q≠0):0<YD p.natAbs q.natAbs:=Nat.gcd_pos_of_pos_right _ (by omega)
theorem mT {p q:Int} (hp:p.natAbs<LIM) (hq:q.natAbs<LIM):cn (YE p q):=by
 have main:∀ {p q:Int},p.natAbs<LIM→q.natAbs<LIM→0<q→cn (YE p q):=by
  intro p q hp hq h0;obtain⟨h1,h2⟩:=mY (p:=p) h0;have hg:=uo (p:=p) (q:=q) (by omega);refine⟨?_,?_⟩
  ·rw[h1];exact my hp (by omega)
  ·have:=my (y:=((YD p.natAbs q.natAbs:Nat):Int)) hq (by omega)
   rw[←h2,X6] at this;exact this
 rcases YJ q 0 with h | h | h
 ·rw[←YK]
  exact main (by omega) (by omega) (by omega)
 ·subst h
  rw[Rat.divInt_zero];unfold cn LIM;exact⟨Nat.pow_pos (by omega),Nat.one_lt_pow (by omega) (by omega)⟩
 ·exact main hp hq h
noncomputable def y0:List Data→Option PRes:=FF (α:=Int × (List Int) × Int × (List Int)) (fun (s,l,s2,l2)=>([.agg [.int .i64 s,.sl (l.map aa)],.agg [.int .i64 s2,.sl (l2.map aa)]]:List Data)) (fun (s,l,s2,l2)=>aH (l.length≤1000000∧l2.length≤1000000) (.same (bw (fP (s,l) (s2,l2)))))
theorem C4:∀ a b:Int × (List Int) × Int × (List Int),(fun (s,l,s2,l2)=>([.agg [.int .i64 s,.sl (l.map aa)],.agg [.int .i64 s2,.sl (l2.map aa)]]:List Data)) a=(fun (s,l,s2,l2)=>([.agg [.int .i64 s,.sl (l.map aa)],.agg [.int .i64 s2,.sl (l2.map aa)]]:List Data)) b→a=b:=by
  rintro⟨s1,l1,s21,l21⟩ ⟨s2,l2,s22,l22⟩ h;simp only[List.cons.injEq,Data.agg.injEq,Data.int.injEq,Data.sl.injEq] at h;exact X7 h.1.1.2 (X7 (af aj _ _ h.1.2.1) (X7 h.2.1.1.2 (af aj _ _ h.2.1.2.1)))
@[go_sem] theorem Pl (s:Int) (l:List Int) (s2:Int) (l2:List Int) (hc:l.length≤1000000∧l2.length≤1000000):y0 [.agg [.int .i64 s,.sl (l.map aa)],.agg [.int .i64 s2,.sl (l2.map aa)]]=some (.same (bw (fP (s,l) (s2,l2)))):=(aX C4 (s,l,s2,l2)).trans (an hc _)
theorem NR (T:Tab) (al:T ba=mkE eh) (pZ:T jo=mkE Eo) (oO:T kR=mkE El) (jW:T iu=mkE Ey) (s:Int) (l:List Int) (s2:Int) (l2:List Int) (hc:l.length≤1000000∧l2.length≤1000000) :
  wp T mf_frac_New.body (bF mf_frac_New.res (.same (bw (fP (s,l) (s2,l2))))) ⟨ax [.dat (.agg [.int .i64 s,.sl (l.map aa)]),.dat (.agg [.int .i64 s2,.sl (l2.map aa)])],emp⟩:=by
 refine ap ?_;simp only[mf_frac_New];obtain⟨hl1,hl2⟩:=hc
 by_cases hr:aK (s,l)=true
 ·by_cases hr2:aK (s2,l2)=true
  ·obtain⟨x,hx,e⟩:=(bj _).1 hr
   obtain⟨y,hy,e2⟩:=(bj _).1 hr2
   by_cases h0:y=0
   ·have hm:fP (s,l) (s2,l2)=(cb,15):=by
     unfold fP;rw[hr,hr2,e2,aU,if_pos (by rfl),if_pos h0]
    rw[hm]
    cases e
    cases e2;have hs:(y.sign==0)=true:=by rw[h0];rfl
    refine qI ?_
    repeat' (intro h<;>simp only[h,go_sem,go_sem_proc,X8,al,pZ,oO,jW,hr,hr2,hl1,hl2,hs,bw,ad,cb,X9]<;>try refine qS ?_ ?_)
   ·have main:∀ p q:Int,p.natAbs<LIM→q.natAbs<LIM→0<q→∃ g:Raw,kg (aS p) (aS q)=(g,0)∧g.2.length≤1000000∧jf (aS p) g=(aS (YE p q).num,aS (p.fmod ((YD p.natAbs q.natAbs:Nat):Int)),0)∧jf (aS q) g=(aS (YE p q).den,aS (q.fmod ((YD p.natAbs q.natAbs:Nat):Int)),0):=by
     intro p q hp hq hq0;have hgl:=pU hp hq;have hgl':((YD p.natAbs q.natAbs:Nat):Int).natAbs<LIM:=by rw[X6];exact hgl
     have hg0:=uo (p:=p) (q:=q) (by omega);obtain⟨h1,h2⟩:=mY (p:=p) hq0;refine⟨aS ((YD p.natAbs q.natAbs:Nat):Int),?_,eX hgl',?_,?_⟩
     ·unfold kg;rw[bM hp,bM hq,aU,aU];rfl
     ·rw[kr hp hgl' (by omega),h1]
     ·rw[kr hq hgl' (by omega),h2]
    have hs0:(y.sign==0)=false:=by simpa using h0
    rcases Int.lt_or_gt_of_ne h0 with hneg | hpos
    ·have hs1:decide (y.sign<0)=true:=by rw[Yo hneg];rfl
     obtain⟨⟨g1,g2⟩,hg,hgl,hd1,hd2⟩:=main (-x) (-y) (by omega) (by omega) (by omega)
     have hm:fP (s,l) (s2,l2)=(ai (YE (-x) (-y)),0):=by
      rw[e,e2,iK hx hy h0,YK]
     rw[hm];have hn1:iQ (s,l)=aS (-x):=by unfold iQ;rw[if_pos hr,e,aU]
     have hn2:iQ (s2,l2)=aS (-y):=by unfold iQ;rw[if_pos hr2,e2,aU]
     have hy1:s2=y.sign:=congrArg YL e2;have hl3:(aS (-x)).2.length≤1000000:=eX (by omega);have hl4:(aS (-y)).2.length≤1000000:=eX (by omega);clear e e2;unfold ai;generalize aS (-x)=X at *;generalize aS (-y)=Y at *;obtain⟨x1,x2⟩:=X;obtain⟨y1,y2⟩:=Y;rw[←hy1] at hs0 hs1;refine qI ?_
     repeat' (intro h<;>simp only[h,go_sem,go_sem_proc,X8,al,pZ,oO,jW,hr,hr2,hl1,hl2,hs0,hs1,hn1,hn2,hl3,hl4,hg,hgl,hd1,hd2,bw,ad,dP,dc,bE]<;>try refine qS ?_ ?_)
    ·have hs1:decide (y.sign<0)=false:=by rw[Yf hpos];rfl
     obtain⟨⟨g1,g2⟩,hg,hgl,hd1,hd2⟩:=main x y hx hy hpos
     have hm:fP (s,l) (s2,l2)=(ai (YE x y),0):=by
      rw[e,e2,iK hx hy h0]
     rw[hm];have hy1:s2=y.sign:=congrArg YL e2;rw[←e] at hg hd1;rw[←e2] at hg hd2;rw[←hy1] at hs0 hs1;unfold ai;refine qI ?_
     repeat' (intro h<;>simp only[h,go_sem,go_sem_proc,X8,al,pZ,oO,jW,hr,hr2,hl1,hl2,hs0,hs1,hg,hgl,hd1,hd2,bw,ad,dP,dc,bE]<;>try refine qS ?_ ?_)
  ·have hr2:aK (s2,l2)=false:=by simpa using hr2
   have hm:fP (s,l) (s2,l2)=(cb,1):=by unfold fP;rw[hr2,Yj];rfl
   rw[hm];refine qI ?_
   repeat' (intro h<;>simp only[h,go_sem,go_sem_proc,X8,al,pZ,oO,jW,hr,hr2,hl1,hl2,bw,ad,cb,X9]<;>try refine qS ?_ ?_)
 ·have hr:aK (s,l)=false:=by simpa using hr
  have hm:fP (s,l) (s2,l2)=(cb,1):=by unfold fP;rw[hr,Yk];rfl
  rw[hm];refine qI ?_
  repeat' (intro h<;>simp only[h,go_sem,go_sem_proc,X8,al,pZ,oO,jW,hr,hl1,hl2,bw,ad,cb,X9]<;>try refine qS ?_ ?_)
noncomputable def Aj:List Data→Option PRes:=FF (α:=Int × Int) (fun (p,q)=>([.int .i64 p,.int .i64 q]:List Data)) (fun (p,q)=>aH (ct p∧ct q) (.same (bw (fP (aS p) (aS q)))))
theorem FY:∀ a b:Int × Int,(fun (p,q)=>([.int .i64 p,.int .i64 q]:List Data)) a=(fun (p,q)=>([.int .i64 p,.int .i64 q]:List Data)) b→a=b:=by
  rintro⟨p1,q1⟩ ⟨p2,q2⟩ h;simp only[List.cons.injEq,Data.int.injEq,Data.agg.injEq,Data.sl.injEq,Data.bool.injEq,Data.str.injEq,Data.ptr.injEq,Data.tup.injEq,Prod.mk.injEq,true_and,and_true] at h ⊢
  first | exact h | simpa [Yl,and_assoc] using h | grind
@[go_sem] theorem H4 (p:Int) (q:Int) (hc:ct p∧ct q):Aj [.int .i64 p,.int .i64 q]=some (.same (bw (fP (aS p) (aS q)))):=(aX FY (p,q)).trans (an hc _)
theorem RQ (T:Tab) (MS:T oy=mkE yu) (tc:T jB=mkE y0) (p:Int) (q:Int) (hc:ct p∧ct q) :
  wp T mf_frac_Of.body (bF mf_frac_Of.res (.same (bw (fP (aS p) (aS q))))) ⟨ax [.dat (.int .i64 p),.dat (.int .i64 q)],emp⟩:=by
 refine ap ?_;simp only[mf_frac_Of];obtain⟨h1,h2⟩:=hc;have l1:(aS p).2.length≤1000000:=eX (jx h1);have l2:(aS q).2.length≤1000000:=eX (jx h2);generalize hP:aS p=P at *;generalize hQ:aS q=Q at *;obtain⟨x1,x2⟩:=P;obtain⟨y1,y2⟩:=Q;refine qI ?_
 repeat' (intro h<;>simp only[h,go_sem,go_sem_proc,X8,MS,tc,h1,h2,hP,hQ,l1,l2,bE,bw,ad]<;>try refine qS ?_ ?_)
def uh (a b c d:Raw):Raw × Int :=
 if ((gj a b).2==0)=true then (if ((gj c d).2==0)=true then qi (gj a b).1 (gj c d).1 else ((0,[]),(gj c d).2)) else ((0,[]),(gj a b).2)
theorem wq (z:Int):(lg z).1.2.length≤1000000:=by
 unfold lg
 split
 ·exact eX (by assumption)
 ·simp
theorem kS (a b:Raw):(gj a b).1.2.length≤1000000:=by
 unfold gj
 split
 ·exact wq _
 ·simp
theorem IO (a b:Raw):(qi a b).1.2.length≤1000000:=by
 unfold qi
 split
 ·exact wq _
 ·simp
theorem Hw (a b c d:Raw):(uh a b c d).1.2.length≤1000000:=by
 unfold uh
 split
 ·split
  ·exact IO _ _
  ·simp
 ·simp
noncomputable def B4:List Data→Option PRes:=FF (α:=Int × (List Int) × Int × (List Int) × Int × (List Int) × Int × (List Int)) (fun (s,l,s2,l2,s3,l3,s4,l4)=>([.agg [.int .i64 s,.sl (l.map aa)],.agg [.int .i64 s2,.sl (l2.map aa)],.agg [.int .i64 s3,.sl (l3.map aa)],.agg [.int .i64 s4,.sl (l4.map aa)]]:List Data)) (fun (s,l,s2,l2,s3,l3,s4,l4)=>aH (l.length≤1000000∧l2.length≤1000000∧l3.length≤1000000∧l4.length≤1000000) (.same (dP (uh (s,l) (s2,l2) (s3,l3) (s4,l4)))))
theorem Ca:∀ a b:Int × (List Int) × Int × (List Int) × Int × (List Int) × Int × (List Int),(fun (s,l,s2,l2,s3,l3,s4,l4)=>([.agg [.int .i64 s,.sl (l.map aa)],.agg [.int .i64 s2,.sl (l2.map aa)],.agg [.int .i64 s3,.sl (l3.map aa)],.agg [.int .i64 s4,.sl (l4.map aa)]]:List Data)) a=(fun (s,l,s2,l2,s3,l3,s4,l4)=>([.agg [.int .i64 s,.sl (l.map aa)],.agg [.int .i64 s2,.sl (l2.map aa)],.agg [.int .i64 s3,.sl (l3.map aa)],.agg [.int .i64 s4,.sl (l4.map aa)]]:List Data)) b→a=b:=by
  rintro⟨s1,l1,s21,l21,s31,l31,s41,l41⟩ ⟨s2,l2,s22,l22,s32,l32,s42,l42⟩ h;simp only[List.cons.injEq,Data.agg.injEq,Data.int.injEq,Data.sl.injEq] at h;exact X7 h.1.1.2 (X7 (af aj _ _ h.1.2.1) (X7 h.2.1.1.2 (X7 (af aj _ _ h.2.1.2.1) (X7 h.2.2.1.1.2 (X7 (af aj _ _ h.2.2.1.2.1) (X7 h.2.2.2.1.1.2 (af aj _ _ h.2.2.2.1.2.1)))))))
@[go_sem] theorem PO (s:Int) (l:List Int) (s2:Int) (l2:List Int) (s3:Int) (l3:List Int) (s4:Int) (l4:List Int) (hc:l.length≤1000000∧l2.length≤1000000∧l3.length≤1000000∧l4.length≤1000000):B4 [.agg [.int .i64 s,.sl (l.map aa)],.agg [.int .i64 s2,.sl (l2.map aa)],.agg [.int .i64 s3,.sl (l3.map aa)],.agg [.int .i64 s4,.sl (l4.map aa)]]=some (.same (dP (uh (s,l) (s2,l2) (s3,l3) (s4,l4)))):=(aX Ca (s,l,s2,l2,s3,l3,s4,l4)).trans (an hc _)
theorem OB (T:Tab) (jU:T dM=mkE vM) (H5:T o0=mkE KE) (s:Int) (l:List Int) (s2:Int) (l2:List Int) (s3:Int) (l3:List Int) (s4:Int) (l4:List Int) (hc:l.length≤1000000∧l2.length≤1000000∧l3.length≤1000000∧l4.length≤1000000) :
  wp T mf_frac_sum.body (bF mf_frac_sum.res (.same (dP (uh (s,l) (s2,l2) (s3,l3) (s4,l4))))) ⟨ax [.dat (.agg [.int .i64 s,.sl (l.map aa)]),.dat (.agg [.int .i64 s2,.sl (l2.map aa)]),.dat (.agg [.int .i64 s3,.sl (l3.map aa)]),.dat (.agg [.int .i64 s4,.sl (l4.map aa)])],emp⟩:=by
 refine ap ?_;simp only[mf_frac_sum];obtain⟨hl1,hl2,hl3,hl4⟩:=hc;have m1:=kS (s,l) (s2,l2);have m2:=kS (s3,l3) (s4,l4);unfold uh;generalize hM1:gj (s,l) (s2,l2)=M1 at *;generalize hM2:gj (s3,l3) (s4,l4)=M2 at *;obtain⟨⟨a1,a2⟩,e1⟩:=M1;obtain⟨⟨b1,b2⟩,e2⟩:=M2;rcases h1:(e1==0)
 ·refine qI ?_
  repeat' (intro h<;>simp only[h,go_sem,go_sem_proc,X8,jU,H5,hl1,hl2,hl3,hl4,hM1,h1,m1,m2,dP,bE,X9]<;>try refine qS ?_ ?_)
 ·have z1:e1=0:=by simpa using h1
  subst z1;rcases h2:(e2==0)
  ·refine qI ?_
   repeat' (intro h<;>simp only[h,go_sem,go_sem_proc,X8,jU,H5,hl1,hl2,hl3,hl4,hM1,hM2,h1,h2,m1,m2,dP,bE,X9]<;>try refine qS ?_ ?_)
  ·have z2:e2=0:=by simpa using h2
   subst z2;refine qI ?_
   repeat' (intro h<;>simp only[h,go_sem,go_sem_proc,X8,jU,H5,hl1,hl2,hl3,hl4,hM1,hM2,h1,m1,m2,dP,bE,X9]<;>try refine qS ?_ ?_)
def nl (p:Raw × Int) (q:Raw × Int):aJ × Int:=if (p.2==0)=true then (if (q.2==0)=true then fP p.1 q.1 else (cb,6)) else (cb,6)
noncomputable def p8:List Data→Option PRes:=FF (α:=Int × (List Int) × Int × Int × (List Int) × Int) (fun (s,l,e,s2,l2,e2)=>([.agg [.int .i64 s,.sl (l.map aa)],.int .i64 e,.agg [.int .i64 s2,.sl (l2.map aa)],.int .i64 e2]:List Data)) (fun (s,l,e,s2,l2,e2)=>aH (l.length≤1000000∧l2.length≤1000000) (.same (bw (nl ((s,l),e) ((s2,l2),e2)))))
theorem BB:∀ a b:Int × (List Int) × Int × Int × (List Int) × Int,(fun (s,l,e,s2,l2,e2)=>([.agg [.int .i64 s,.sl (l.map aa)],.int .i64 e,.agg [.int .i64 s2,.sl (l2.map aa)],.int .i64 e2]:List Data)) a=(fun (s,l,e,s2,l2,e2)=>([.agg [.int .i64 s,.sl (l.map aa)],.int .i64 e,.agg [.int .i64 s2,.sl (l2.map aa)],.int .i64 e2]:List Data)) b→a=b:=by
  rintro⟨s1,l1,e1,s21,l21,e21⟩ ⟨s2,l2,e2,s22,l22,e22⟩ h;simp only[List.cons.injEq,Data.agg.injEq,Data.int.injEq,Data.sl.injEq] at h;exact X7 h.1.1.2 (X7 (af aj _ _ h.1.2.1) (X7 h.2.1.2 (X7 h.2.2.1.1.2 (X7 (af aj _ _ h.2.2.1.2.1) h.2.2.2.1.2))))
@[go_sem] theorem Ow (s:Int) (l:List Int) (e:Int) (s2:Int) (l2:List Int) (e2:Int) (hc:l.length≤1000000∧l2.length≤1000000):p8 [.agg [.int .i64 s,.sl (l.map aa)],.int .i64 e,.agg [.int .i64 s2,.sl (l2.map aa)],.int .i64 e2]=some (.same (bw (nl ((s,l),e) ((s2,l2),e2)))):=(aX BB (s,l,e,s2,l2,e2)).trans (an hc _)
theorem LV (T:Tab) (tc:T jB=mkE y0) (s:Int) (l:List Int) (e:Int) (s2:Int) (l2:List Int) (e2:Int) (hc:l.length≤1000000∧l2.length≤1000000) :
  wp T mf_frac_quotient.body (bF mf_frac_quotient.res (.same (bw (nl ((s,l),e) ((s2,l2),e2))))) ⟨ax [.dat (.agg [.int .i64 s,.sl (l.map aa)]),.dat (.int .i64 e),.dat (.agg [.int .i64 s2,.sl (l2.map aa)]),.dat (.int .i64 e2)],emp⟩:=by
 refine ap ?_;simp only[mf_frac_quotient];obtain⟨hl1,hl2⟩:=hc;unfold nl;rcases h1:(e==0)
 ·refine qI ?_
  repeat' (intro h<;>simp only[h,go_sem,go_sem_proc,X8,tc,hl1,hl2,h1,bw,ad,cb,X9]<;>try refine qS ?_ ?_)
 ·have z1:e=0:=by simpa using h1
  subst z1;rcases h2:(e2==0)
  ·refine qI ?_
   repeat' (intro h<;>simp only[h,go_sem,go_sem_proc,X8,tc,hl1,hl2,h1,h2,bw,ad,cb,X9]<;>try refine qS ?_ ?_)
  ·have z2:e2=0:=by simpa using h2
   subst z2;refine qI ?_
   repeat' (intro h<;>simp only[h,go_sem,go_sem_proc,X8,tc,hl1,hl2,h1,bw,ad,cb,X9]<;>try refine qS ?_ ?_)
def sI (a b:aJ):aJ × Int:=if bf a=true then (if bf b=true then nl (uh a.1 b.2 b.1 a.2) (gj a.2 b.2) else (cb,1)) else (cb,1)
def nr (a b:aJ):aJ × Int:=if bf a=true then (if bf b=true then sI a (iQ b.1,b.2) else (cb,1)) else (cb,1)
def mD (a b:aJ):aJ × Int:=if bf a=true then (if bf b=true then nl (gj a.1 b.1) (gj a.2 b.2) else (cb,1)) else (cb,1)
def iY (a b:aJ):aJ × Int:=if bf a=true then (if bf b=true then (if (b.1.1==0)=true then (cb,15) else nl (gj a.1 b.2) (gj a.2 b.1)) else (cb,1)) else (cb,1)
theorem JY (a:Raw) (h:a.2.length≤1000000):(iQ a).2.length≤1000000:=by
 unfold iQ
 split
 ·rename_i hr
  obtain⟨z,hz,e⟩:=(bj _).1 hr;rw[e,aU];exact eX (by omega)
 ·simp
noncomputable def mN:List Data→Option PRes:=FF (α:=Int × (List Int) × Int × (List Int) × Int × (List Int) × Int × (List Int)) (fun (s,l,s2,l2,s3,l3,s4,l4)=>([.agg [.int .i64 s,.sl (l.map aa),.int .i64 s2,.sl (l2.map aa)],.agg [.int .i64 s3,.sl (l3.map aa),.int .i64 s4,.sl (l4.map aa)]]:List Data)) (fun (s,l,s2,l2,s3,l3,s4,l4)=>aH (l.length≤1000000∧l2.length≤1000000∧l3.length≤1000000∧l4.length≤1000000) (.same (bw (sI ((s,l),(s2,l2)) ((s3,l3),(s4,l4))))))
theorem C5:∀ a b:Int × (List Int) × Int × (List Int) × Int × (List Int) × Int × (List Int),(fun (s,l,s2,l2,s3,l3,s4,l4)=>([.agg [.int .i64 s,.sl (l.map aa),.int .i64 s2,.sl (l2.map aa)],.agg [.int .i64 s3,.sl (l3.map aa),.int .i64 s4,.sl (l4.map aa)]]:List Data)) a=(fun (s,l,s2,l2,s3,l3,s4,l4)=>([.agg [.int .i64 s,.sl (l.map aa),.int .i64 s2,.sl (l2.map aa)],.agg [.int .i64 s3,.sl (l3.map aa),.int .i64 s4,.sl (l4.map aa)]]:List Data)) b→a=b:=by
  rintro⟨s1,l1,s21,l21,s31,l31,s41,l41⟩ ⟨s2,l2,s22,l22,s32,l32,s42,l42⟩ h;simp only[List.cons.injEq,Data.agg.injEq,Data.int.injEq,Data.sl.injEq] at h;exact X7 h.1.1.2 (X7 (af aj _ _ h.1.2.1) (X7 h.1.2.2.1.2 (X7 (af aj _ _ h.1.2.2.2.1) (X7 h.2.1.1.2 (X7 (af aj _ _ h.2.1.2.1) (X7 h.2.1.2.2.1.2 (af aj _ _ h.2.1.2.2.2.1)))))))
@[go_sem] theorem wV (s:Int) (l:List Int) (s2:Int) (l2:List Int) (s3:Int) (l3:List Int) (s4:Int) (l4:List Int) (hc:l.length≤1000000∧l2.length≤1000000∧l3.length≤1000000∧l4.length≤1000000):mN [.agg [.int .i64 s,.sl (l.map aa),.int .i64 s2,.sl (l2.map aa)],.agg [.int .i64 s3,.sl (l3.map aa),.int .i64 s4,.sl (l4.map aa)]]=some (.same (bw (sI ((s,l),(s2,l2)) ((s3,l3),(s4,l4))))):=(aX C5 (s,l,s2,l2,s3,l3,s4,l4)).trans (an hc _)
theorem NL (T:Tab) (aE:T aT=mkE ff) (CH:T n0=mkE B4) (jU:T dM=mkE vM) (il:T dz=mkE p8) (s:Int) (l:List Int) (s2:Int) (l2:List Int) (s3:Int) (l3:List Int) (s4:Int) (l4:List Int) (hc:l.length≤1000000∧l2.length≤1000000∧l3.length≤1000000∧l4.length≤1000000) :
  wp T mf_frac_Add.body (bF mf_frac_Add.res (.same (bw (sI ((s,l),(s2,l2)) ((s3,l3),(s4,l4)))))) ⟨ax [.dat (.agg [.int .i64 s,.sl (l.map aa),.int .i64 s2,.sl (l2.map aa)]),.dat (.agg [.int .i64 s3,.sl (l3.map aa),.int .i64 s4,.sl (l4.map aa)])],emp⟩:=by
 refine ap ?_;simp only[mf_frac_Add];obtain⟨hl1,hl2,hl3,hl4⟩:=hc;unfold sI
 by_cases hr:bf ((s,l),(s2,l2))=true
 ·by_cases hr2:bf ((s3,l3),(s4,l4))=true
  ·have m1:=Hw (s,l) (s4,l4) (s3,l3) (s2,l2)
   have m2:=kS (s2,l2) (s4,l4);rw[if_pos hr,if_pos hr2];dsimp only;generalize hM1:uh (s,l) (s4,l4) (s3,l3) (s2,l2)=M1 at *;generalize hM2:gj (s2,l2) (s4,l4)=M2 at *;obtain⟨⟨a1,a2⟩,e1⟩:=M1;obtain⟨⟨b1,b2⟩,e2⟩:=M2;refine qI ?_
   repeat' (intro h<;>simp only[h,go_sem,go_sem_proc,X8,aE,CH,jU,il,hl1,hl2,hl3,hl4,hr,hr2,hM1,hM2,m1,m2,dP,bE,bw,ad]<;>try refine qS ?_ ?_)
  ·have hr2:bf ((s3,l3),(s4,l4))=false:=by simpa using hr2
   rw[if_pos hr,if_neg (by simp [hr2])];refine qI ?_
   repeat' (intro h<;>simp only[h,go_sem,go_sem_proc,X8,aE,CH,jU,il,hl1,hl2,hl3,hl4,hr,hr2,bw,ad,cb,X9]<;>try refine qS ?_ ?_)
 ·have hr:bf ((s,l),(s2,l2))=false:=by simpa using hr
  rw[if_neg (by simp [hr])];refine qI ?_
  repeat' (intro h<;>simp only[h,go_sem,go_sem_proc,X8,aE,CH,jU,il,hl1,hl2,hl3,hl4,hr,bw,ad,cb,X9]<;>try refine qS ?_ ?_)
noncomputable def mE:List Data→Option PRes:=FF (α:=Int × (List Int) × Int × (List Int) × Int × (List Int) × Int × (List Int)) (fun (s,l,s2,l2,s3,l3,s4,l4)=>([.agg [.int .i64 s,.sl (l.map aa),.int .i64 s2,.sl (l2.map aa)],.agg [.int .i64 s3,.sl (l3.map aa),.int .i64 s4,.sl (l4.map aa)]]:List Data)) (fun (s,l,s2,l2,s3,l3,s4,l4)=>aH (l.length≤1000000∧l2.length≤1000000∧l3.length≤1000000∧l4.length≤1000000) (.same (bw (nr ((s,l),(s2,l2)) ((s3,l3),(s4,l4))))))
theorem C7:∀ a b:Int × (List Int) × Int × (List Int) × Int × (List Int) × Int × (List Int),(fun (s,l,s2,l2,s3,l3,s4,l4)=>([.agg [.int .i64 s,.sl (l.map aa),.int .i64 s2,.sl (l2.map aa)],.agg [.int .i64 s3,.sl (l3.map aa),.int .i64 s4,.sl (l4.map aa)]]:List Data)) a=(fun (s,l,s2,l2,s3,l3,s4,l4)=>([.agg [.int .i64 s,.sl (l.map aa),.int .i64 s2,.sl (l2.map aa)],.agg [.int .i64 s3,.sl (l3.map aa),.int .i64 s4,.sl (l4.map aa)]]:List Data)) b→a=b:=by
  rintro⟨s1,l1,s21,l21,s31,l31,s41,l41⟩ ⟨s2,l2,s22,l22,s32,l32,s42,l42⟩ h;simp only[List.cons.injEq,Data.agg.injEq,Data.int.injEq,Data.sl.injEq] at h;exact X7 h.1.1.2 (X7 (af aj _ _ h.1.2.1) (X7 h.1.2.2.1.2 (X7 (af aj _ _ h.1.2.2.2.1) (X7 h.2.1.1.2 (X7 (af aj _ _ h.2.1.2.1) (X7 h.2.1.2.2.1.2 (af aj _ _ h.2.1.2.2.2.1)))))))
@[go_sem] theorem Fg (s:Int) (l:List Int) (s2:Int) (l2:List Int) (s3:Int) (l3:List Int) (s4:Int) (l4:List Int) (hc:l.length≤1000000∧l2.length≤1000000∧l3.length≤1000000∧l4.length≤1000000):mE [.agg [.int .i64 s,.sl (l.map aa),.int .i64 s2,.sl (l2.map aa)],.agg [.int .i64 s3,.sl (l3.map aa),.int .i64 s4,.sl (l4.map aa)]]=some (.same (bw (nr ((s,l),(s2,l2)) ((s3,l3),(s4,l4))))):=(aX C7 (s,l,s2,l2,s3,l3,s4,l4)).trans (an hc _)
theorem N3 (T:Tab) (aE:T aT=mkE ff) (pZ:T jo=mkE Eo) (cJ:T dU=mkE mN) (s:Int) (l:List Int) (s2:Int) (l2:List Int) (s3:Int) (l3:List Int) (s4:Int) (l4:List Int) (hc:l.length≤1000000∧l2.length≤1000000∧l3.length≤1000000∧l4.length≤1000000) :
  wp T mf_frac_Sub.body (bF mf_frac_Sub.res (.same (bw (nr ((s,l),(s2,l2)) ((s3,l3),(s4,l4)))))) ⟨ax [.dat (.agg [.int .i64 s,.sl (l.map aa),.int .i64 s2,.sl (l2.map aa)]),.dat (.agg [.int .i64 s3,.sl (l3.map aa),.int .i64 s4,.sl (l4.map aa)])],emp⟩:=by
 refine ap ?_;simp only[mf_frac_Sub];obtain⟨hl1,hl2,hl3,hl4⟩:=hc;unfold nr
 by_cases hr:bf ((s,l),(s2,l2))=true
 ·by_cases hr2:bf ((s3,l3),(s4,l4))=true
  ·have m1:=JY (s3,l3) hl3
   rw[if_pos hr,if_pos hr2];dsimp only;generalize hM1:iQ (s3,l3)=M1 at *;obtain⟨a1,a2⟩:=M1;refine qI ?_
   repeat' (intro h<;>simp only[h,go_sem,go_sem_proc,X8,aE,pZ,cJ,hl1,hl2,hl3,hl4,hr,hr2,hM1,m1,dP,bE,bw,ad]<;>try refine qS ?_ ?_)
  ·have hr2:bf ((s3,l3),(s4,l4))=false:=by simpa using hr2
   rw[if_pos hr,if_neg (by simp [hr2])];refine qI ?_
   repeat' (intro h<;>simp only[h,go_sem,go_sem_proc,X8,aE,pZ,cJ,hl1,hl2,hl3,hl4,hr,hr2,bw,ad,cb,X9]<;>try refine qS ?_ ?_)
 ·have hr:bf ((s,l),(s2,l2))=false:=by simpa using hr
  rw[if_neg (by simp [hr])];refine qI ?_
  repeat' (intro h<;>simp only[h,go_sem,go_sem_proc,X8,aE,pZ,cJ,hl1,hl2,hl3,hl4,hr,bw,ad,cb,X9]<;>try refine qS ?_ ?_)
noncomputable def lC:List Data→Option PRes:=FF (α:=Int × (List Int) × Int × (List Int) × Int × (List Int) × Int × (List Int)) (fun (s,l,s2,l2,s3,l3,s4,l4)=>([.agg [.int .i64 s,.sl (l.map aa),.int .i64 s2,.sl (l2.map aa)],.agg [.int .i64 s3,.sl (l3.map aa),.int .i64 s4,.sl (l4.map aa)]]:List Data)) (fun (s,l,s2,l2,s3,l3,s4,l4)=>aH (l.length≤1000000∧l2.length≤1000000∧l3.length≤1000000∧l4.length≤1000000) (.same (bw (mD ((s,l),(s2,l2)) ((s3,l3),(s4,l4))))))
theorem CS:∀ a b:Int × (List Int) × Int × (List Int) × Int × (List Int) × Int × (List Int),(fun (s,l,s2,l2,s3,l3,s4,l4)=>([.agg [.int .i64 s,.sl (l.map aa),.int .i64 s2,.sl (l2.map aa)],.agg [.int .i64 s3,.sl (l3.map aa),.int .i64 s4,.sl (l4.map aa)]]:List Data)) a=(fun (s,l,s2,l2,s3,l3,s4,l4)=>([.agg [.int .i64 s,.sl (l.map aa),.int .i64 s2,.sl (l2.map aa)],.agg [.int .i64 s3,.sl (l3.map aa),.int .i64 s4,.sl (l4.map aa)]]:List Data)) b→a=b:=by
  rintro⟨s1,l1,s21,l21,s31,l31,s41,l41⟩ ⟨s2,l2,s22,l22,s32,l32,s42,l42⟩ h;simp only[List.cons.injEq,Data.agg.injEq,Data.int.injEq,Data.sl.injEq] at h;exact X7 h.1.1.2 (X7 (af aj _ _ h.1.2.1) (X7 h.1.2.2.1.2 (X7 (af aj _ _ h.1.2.2.2.1) (X7 h.2.1.1.2 (X7 (af aj _ _ h.2.1.2.1) (X7 h.2.1.2.2.1.2 (af aj _ _ h.2.1.2.2.2.1)))))))
@[go_sem] theorem GV (s:Int) (l:List Int) (s2:Int) (l2:List Int) (s3:Int) (l3:List Int) (s4:Int) (l4:List Int) (hc:l.length≤1000000∧l2.length≤1000000∧l3.length≤1000000∧l4.length≤1000000):lC [.agg [.int .i64 s,.sl (l.map aa),.int .i64 s2,.sl (l2.map aa)],.agg [.int .i64 s3,.sl (l3.map aa),.int .i64 s4,.sl (l4.map aa)]]=some (.same (bw (mD ((s,l),(s2,l2)) ((s3,l3),(s4,l4))))):=(aX CS (s,l,s2,l2,s3,l3,s4,l4)).trans (an hc _)
theorem N0 (T:Tab) (aE:T aT=mkE ff) (jU:T dM=mkE vM) (il:T dz=mkE p8) (s:Int) (l:List Int) (s2:Int) (l2:List Int) (s3:Int) (l3:List Int) (s4:Int) (l4:List Int) (hc:l.length≤1000000∧l2.length≤1000000∧l3.length≤1000000∧l4.length≤1000000) :
  wp T mf_frac_Mul.body (bF mf_frac_Mul.res (.same (bw (mD ((s,l),(s2,l2)) ((s3,l3),(s4,l4)))))) ⟨ax [.dat (.agg [.int .i64 s,.sl (l.map aa),.int .i64 s2,.sl (l2.map aa)]),.dat (.agg [.int .i64 s3,.sl (l3.map aa),.int .i64 s4,.sl (l4.map aa)])],emp⟩:=by
 refine ap ?_;simp only[mf_frac_Mul];obtain⟨hl1,hl2,hl3,hl4⟩:=hc;unfold mD
 by_cases hr:bf ((s,l),(s2,l2))=true
 ·by_cases hr2:bf ((s3,l3),(s4,l4))=true
  ·have m1:=kS (s,l) (s3,l3)
   have m2:=kS (s2,l2) (s4,l4);rw[if_pos hr,if_pos hr2];dsimp only;generalize hM1:gj (s,l) (s3,l3)=M1 at *;generalize hM2:gj (s2,l2) (s4,l4)=M2 at *;obtain⟨⟨a1,a2⟩,e1⟩:=M1;obtain⟨⟨b1,b2⟩,e2⟩:=M2;refine qI ?_
   repeat' (intro h<;>simp only[h,go_sem,go_sem_proc,X8,aE,jU,il,hl1,hl2,hl3,hl4,hr,hr2,hM1,hM2,m1,m2,dP,bE,bw,ad]<;>try refine qS ?_ ?_)
  ·have hr2:bf ((s3,l3),(s4,l4))=false:=by simpa using hr2
   rw[if_pos hr,if_neg (by simp [hr2])];refine qI ?_
   repeat' (intro h<;>simp only[h,go_sem,go_sem_proc,X8,aE,jU,il,hl1,hl2,hl3,hl4,hr,hr2,bw,ad,cb,X9]<;>try refine qS ?_ ?_)
 ·have hr:bf ((s,l),(s2,l2))=false:=by simpa using hr
  rw[if_neg (by simp [hr])];refine qI ?_
  repeat' (intro h<;>simp only[h,go_sem,go_sem_proc,X8,aE,jU,il,hl1,hl2,hl3,hl4,hr,bw,ad,cb,X9]<;>try refine qS ?_ ?_)
noncomputable def o5:List Data→Option PRes:=FF (α:=Int × (List Int) × Int × (List Int) × Int × (List Int) × Int × (List Int)) (fun (s,l,s2,l2,s3,l3,s4,l4)=>([.agg [.int .i64 s,.sl (l.map aa),.int .i64 s2,.sl (l2.map aa)],.agg [.int .i64 s3,.sl (l3.map aa),.int .i64 s4,.sl (l4.map aa)]]:List Data)) (fun (s,l,s2,l2,s3,l3,s4,l4)=>aH (l.length≤1000000∧l2.length≤1000000∧l3.length≤1000000∧l4.length≤1000000) (.same (bw (iY ((s,l),(s2,l2)) ((s3,l3),(s4,l4))))))
theorem DK:∀ a b:Int × (List Int) × Int × (List Int) × Int × (List Int) × Int × (List Int),(fun (s,l,s2,l2,s3,l3,s4,l4)=>([.agg [.int .i64 s,.sl (l.map aa),.int .i64 s2,.sl (l2.map aa)],.agg [.int .i64 s3,.sl (l3.map aa),.int .i64 s4,.sl (l4.map aa)]]:List Data)) a=(fun (s,l,s2,l2,s3,l3,s4,l4)=>([.agg [.int .i64 s,.sl (l.map aa),.int .i64 s2,.sl (l2.map aa)],.agg [.int .i64 s3,.sl (l3.map aa),.int .i64 s4,.sl (l4.map aa)]]:List Data)) b→a=b:=by
  rintro⟨s1,l1,s21,l21,s31,l31,s41,l41⟩ ⟨s2,l2,s22,l22,s32,l32,s42,l42⟩ h;simp only[List.cons.injEq,Data.agg.injEq,Data.int.injEq,Data.sl.injEq] at h;exact X7 h.1.1.2 (X7 (af aj _ _ h.1.2.1) (X7 h.1.2.2.1.2 (X7 (af aj _ _ h.1.2.2.2.1) (X7 h.2.1.1.2 (X7 (af aj _ _ h.2.1.2.1) (X7 h.2.1.2.2.1.2 (af aj _ _ h.2.1.2.2.2.1)))))))
@[go_sem] theorem FV (s:Int) (l:List Int) (s2:Int) (l2:List Int) (s3:Int) (l3:List Int) (s4:Int) (l4:List Int) (hc:l.length≤1000000∧l2.length≤1000000∧l3.length≤1000000∧l4.length≤1000000):o5 [.agg [.int .i64 s,.sl (l.map aa),.int .i64 s2,.sl (l2.map aa)],.agg [.int .i64 s3,.sl (l3.map aa),.int .i64 s4,.sl (l4.map aa)]]=some (.same (bw (iY ((s,l),(s2,l2)) ((s3,l3),(s4,l4))))):=(aX DK (s,l,s2,l2,s3,l3,s4,l4)).trans (an hc _)
theorem Ny (T:Tab) (aE:T aT=mkE ff) (jU:T dM=mkE vM) (il:T dz=mkE p8) (s:Int) (l:List Int) (s2:Int) (l2:List Int) (s3:Int) (l3:List Int) (s4:Int) (l4:List Int) (hc:l.length≤1000000∧l2.length≤1000000∧l3.length≤1000000∧l4.length≤1000000) :
  wp T mf_frac_Div.body (bF mf_frac_Div.res (.same (bw (iY ((s,l),(s2,l2)) ((s3,l3),(s4,l4)))))) ⟨ax [.dat (.agg [.int .i64 s,.sl (l.map aa),.int .i64 s2,.sl (l2.map aa)]),.dat (.agg [.int .i64 s3,.sl (l3.map aa),.int .i64 s4,.sl (l4.map aa)])],emp⟩:=by
 refine ap ?_;simp only[mf_frac_Div];obtain⟨hl1,hl2,hl3,hl4⟩:=hc;unfold iY
 by_cases hr:bf ((s,l),(s2,l2))=true
 ·by_cases hr2:bf ((s3,l3),(s4,l4))=true
  ·rw[if_pos hr,if_pos hr2]
   dsimp only;rcases h0:(s3==0)
   ·have m1:=kS (s,l) (s4,l4)
    have m2:=kS (s2,l2) (s3,l3);rw[if_neg (by simp)];generalize hM1:gj (s,l) (s4,l4)=M1 at *;generalize hM2:gj (s2,l2) (s3,l3)=M2 at *;obtain⟨⟨a1,a2⟩,e1⟩:=M1;obtain⟨⟨b1,b2⟩,e2⟩:=M2;refine qI ?_
    repeat' (intro h<;>simp only[h,go_sem,go_sem_proc,X8,aE,jU,il,hl1,hl2,hl3,hl4,hr,hr2,h0,hM1,hM2,m1,m2,dP,bE,bw,ad]<;>try refine qS ?_ ?_)
   ·rw[if_pos rfl]
    refine qI ?_
    repeat' (intro h<;>simp only[h,go_sem,go_sem_proc,X8,aE,jU,il,hl1,hl2,hl3,hl4,hr,hr2,h0,bw,ad,cb,X9]<;>try refine qS ?_ ?_)
  ·have hr2:bf ((s3,l3),(s4,l4))=false:=by simpa using hr2
   rw[if_pos hr,if_neg (by simp [hr2])];refine qI ?_
   repeat' (intro h<;>simp only[h,go_sem,go_sem_proc,X8,aE,jU,il,hl1,hl2,hl3,hl4,hr,hr2,bw,ad,cb,X9]<;>try refine qS ?_ ?_)
 ·have hr:bf ((s,l),(s2,l2))=false:=by simpa using hr
  rw[if_neg (by simp [hr])];refine qI ?_
  repeat' (intro h<;>simp only[h,go_sem,go_sem_proc,X8,aE,jU,il,hl1,hl2,hl3,hl4,hr,bw,ad,cb,X9]<;>try refine qS ?_ ?_)
def qZ (c:Bool) (v:Rat):aJ × Int:=if c=true then (ai v,0) else (cb,6)
def okZ (z:Int):Bool:=decide (z.natAbs<LIM)
def gX (x y:Rat):Bool:=okZ (x.num*y.den)&&(okZ (y.num*x.den)&&(okZ (x.num*y.den+y.num*x.den)&&okZ ((x.den:Int)*y.den)))
def qU (x y:Rat):Bool:=okZ (x.num*y.num)&&okZ ((x.den:Int)*y.den)
def nt (x y:Rat):Bool:=okZ (x.num*y.den)&&okZ ((x.den:Int)*y.num)
theorem iD {z:Int} (h:okZ z=true):lg z=(aS z,0):=if_pos (by simpa [okZ] using h)
theorem jJ {z:Int} (h:okZ z=false):lg z=((0,[]),6):=if_neg (by simpa [okZ] using h)
theorem gS {z:Int} (h:okZ z=true):z.natAbs<LIM:=by simpa [okZ] using h
theorem JI {a b c d:Int} (ha:a.natAbs<LIM) (hb:b.natAbs<LIM) (hc:c.natAbs<LIM) (hd:d.natAbs<LIM) :
  uh (aS a) (aS b) (aS c) (aS d)=if (okZ (a*b)&&(okZ (c*d)&&okZ (a*b+c*d)))=true then (aS (a*b+c*d),0) else ((0,[]),6):=by
 unfold uh;rw[jH ha hb,jH hc hd];rcases h1:okZ (a*b)
 ·rw[jJ h1];rfl
 ·rw[iD h1]
  rcases h2:okZ (c*d)
  ·rw[jJ h2];rfl
  ·rw[iD h2]
   show qi (aS (a*b)) (aS (c*d))=_;rw[AR (gS h1) (gS h2)];rcases h3:okZ (a*b+c*d)
   ·rw[jJ h3];rfl
   ·rw[iD h3];rfl
theorem o8 (x y:Rat):YE (x.num*y.den+y.num*x.den) ((x.den:Int)*y.den)=x+y:=by
 rw[←Rat.divInt_add_divInt _ _ (by have:=den_pos x;omega) (by have:=den_pos y;omega),YF,YF]
theorem oX (x y:Rat):YE (x.num*y.num) ((x.den:Int)*y.den)=x*y:=by
 rw[←YM,YF,YF]
theorem py (x y:Rat):YE (x.num*y.den) ((x.den:Int)*y.num)=x / y:=by
 rw[←YM,YF,←Rat.inv_divInt,YF]
 rfl
theorem kQ (x:Rat):(x.den:Int)≠0:=by have:=den_pos x;omega
theorem uk {x y:Rat} (hx:cn x) (hy:cn y):sI (ai x) (ai y)=qZ (gX x y) (x+y):=by
 unfold sI;rw[if_pos (eQ hx),if_pos (eQ hy)]
 show nl (uh (aS x.num) (aS y.den) (aS y.num) (aS x.den)) (gj (aS x.den) (aS y.den))=_;rw[JI hx.1 (tg hy) hy.1 (tg hx),jH (tg hx) (tg hy)];unfold gX;rcases h1:okZ (x.num*y.den)
 ·rfl
 ·rcases h2:okZ (y.num*x.den)
  ·rfl
  ·rcases h3:okZ (x.num*y.den+y.num*x.den)
   ·rfl
   ·rcases h4:okZ ((x.den:Int)*y.den)
    ·rw[jJ h4];rfl
    ·rw[iD h4]
     show fP (aS (x.num*y.den+y.num*x.den)) (aS ((x.den:Int)*y.den))=(ai (x+y),0)
     rw[iK (gS h3) (gS h4) (YN (kQ x) (kQ y)),o8]
theorem Ka {x:Rat} (h:cn x):cn (-x):=⟨by rw[Rat.neg_num];have:=h.1;omega,by rw[Rat.neg_den];exact h.2⟩
theorem q0 {x y:Rat} (hx:cn x) (hy:cn y):nr (ai x) (ai y)=qZ (gX x (-y)) (x-y):=by
 unfold nr;rw[if_pos (eQ hx),if_pos (eQ hy)]
 have:(iQ (ai y).1,(ai y).2)=ai (-y):=by
  unfold ai;have:iQ (aS y.num)=aS (-y.num):=by unfold iQ;rw[if_pos (bM hy.1),aU]
  dsimp only;rw[this];rfl
 rw[this,uk hx (Ka hy),YO]
theorem uZ {x y:Rat} (hx:cn x) (hy:cn y):mD (ai x) (ai y)=qZ (qU x y) (x*y):=by
 unfold mD;rw[if_pos (eQ hx),if_pos (eQ hy)]
 show nl (gj (aS x.num) (aS y.num)) (gj (aS x.den) (aS y.den))=_;rw[jH hx.1 hy.1,jH (tg hx) (tg hy)];unfold qU;rcases h1:okZ (x.num*y.num)
 ·rw[jJ h1];rfl
 ·rw[iD h1]
  rcases h4:okZ ((x.den:Int)*y.den)
  ·rw[jJ h4];rfl
  ·rw[iD h4]
   show fP (aS (x.num*y.num)) (aS ((x.den:Int)*y.den))=(ai (x*y),0)
   rw[iK (gS h1) (gS h4) (YN (kQ x) (kQ y)),oX]
theorem qE {x y:Rat} (hx:cn x) (hy:cn y) (h0:y≠0):iY (ai x) (ai y)=qZ (nt x y) (x / y):=by
 unfold iY;rw[if_pos (eQ hx),if_pos (eQ hy)];have hn:y.num≠0:=fun h=>h0 (Rat.num_eq_zero.1 h)
 have:((ai y).1.1==0)=false:=by
  show (y.num.sign==0)=false
  simpa using hn
 rw[this,if_neg (by simp)]
 show nl (gj (aS x.num) (aS y.den)) (gj (aS x.den) (aS y.num))=_;rw[jH hx.1 (tg hy),jH (tg hx) hy.1];unfold nt;rcases h1:okZ (x.num*y.den)
 ·rw[jJ h1];rfl
 ·rw[iD h1]
  rcases h4:okZ ((x.den:Int)*y.num)
  ·rw[jJ h4];rfl
  ·rw[iD h4]
   show fP (aS (x.num*y.den)) (aS ((x.den:Int)*y.num))=(ai (x / y),0)
   rw[iK (gS h1) (gS h4) (YN (kQ x) hn),py]
theorem Mv {x y:Rat} (h:gX x y=true):cn (x+y):=by
 unfold gX at h;simp only[YG] at h;rw[←o8];exact mT (gS h.2.2.1) (gS h.2.2.2)
theorem EC {x y:Rat} (h:gX x (-y)=true):cn (x-y):=by rw[YO];exact Mv h
theorem ER {x y:Rat} (h:qU x y=true):cn (x*y):=by
 unfold qU at h;simp only[YG] at h;rw[←oX];exact mT (gS h.1) (gS h.2)
theorem Lv {x y:Rat} (h:nt x y=true):cn (x / y):=by
 unfold nt at h;simp only[YG] at h;rw[←py];exact mT (gS h.1) (gS h.2)
def kD (x y:Rat):Int:=(x.num*y.den-y.num*x.den).sign
def kX (a b:aJ):Int:=if bf a=true then (if bf b=true then (gH a.1*gH b.2-gH b.1*gH a.2).sign else 0) else 0
theorem p9 {x y:Rat} (hx:cn x) (hy:cn y):kX (ai x) (ai y)=kD x y:=by
 unfold kX;rw[if_pos (eQ hx),if_pos (eQ hy)];unfold ai kD;rw[aU,aU,aU,aU]
theorem cmpQ_zero {x y:Rat}:kD x y=0↔x=y:=by
 unfold kD;rw[Ya,Rat.eq_iff_mul_eq_mul];omega
theorem rb {p q:Int} (hq:0<q):0≤p.fmod q∧p.fmod q<q:=⟨Int.fmod_nonneg_of_pos _ hq,Int.fmod_lt_of_pos _ hq⟩
theorem IP {p q r s:Int} (hq:0<q) (hs:0<s) (h:p.fdiv q<r.fdiv s):p*s-r*q<0:=by
 have e1:=YP p q;have e2:=YP r s;have b1:=rb (p:=p) hq;have b2:=rb (p:=r) hs;generalize p.fdiv q=x at *;generalize r.fdiv s=y at *;generalize p.fmod q=u at *;generalize r.fmod s=v at *;subst e1 e2;have h1:q*s*(x+1)≤q*s*y:=Int.mul_le_mul_of_nonneg_left (by omega) (Yw (Int.mul_pos hq hs));have h2:u*s<q*s:=Int.mul_lt_mul_of_pos_right b1.2 hs;have h3:0≤v*q:=Yv b2.1 (by omega);have e3:(q*x+u)*s-(s*y+v)*q=q*s*(x+1)-q*s*y+(u*s-q*s)-v*q:=by grind
 omega
theorem O5 {p q r s:Int} (h:p.fdiv q=r.fdiv s):p*s-r*q=p.fmod q*s-r.fmod s*q:=by
 have e1:=YP p q;have e2:=YP r s;rw[h] at e1;generalize r.fdiv s=y at *;generalize p.fmod q=u at *;generalize r.fmod s=v at *;subst e1 e2;grind
theorem vW (a b:Int):(a-b).sign = -(b-a).sign:=by rw[←Ye];congr 1;omega
theorem wM {p q:Int} (hp:p.natAbs<LIM) (hq:q.natAbs<LIM) (h0:0<q) :
  jf (p.sign,dg p.natAbs) (q.sign,dg q.natAbs)=(((p.fdiv q).sign,dg (p.fdiv q).natAbs),((p.fmod q).sign,dg (p.fmod q).natAbs),0):=kr hp hq (by omega)
noncomputable def dx:List Data→Option PRes:=FF (α:=Int × (List Int) × Int × (List Int) × Int × (List Int) × Int × (List Int)) (fun (s,l,s2,l2,s3,l3,s4,l4)=>([.agg [.int .i64 s,.sl (l.map aa),.int .i64 s2,.sl (l2.map aa)],.agg [.int .i64 s3,.sl (l3.map aa),.int .i64 s4,.sl (l4.map aa)]]:List Data)) (fun (s,l,s2,l2,s3,l3,s4,l4)=>aH (l.length≤1000000∧l2.length≤1000000∧l3.length≤1000000∧l4.length≤1000000) (.same (.int .i64 (kX ((s,l),(s2,l2)) ((s3,l3),(s4,l4))))))
theorem uG:∀ a b:Int × (List Int) × Int × (List Int) × Int × (List Int) × Int × (List Int),(fun (s,l,s2,l2,s3,l3,s4,l4)=>([.agg [.int .i64 s,.sl (l.map aa),.int .i64 s2,.sl (l2.map aa)],.agg [.int .i64 s3,.sl (l3.map aa),.int .i64 s4,.sl (l4.map aa)]]:List Data)) a=(fun (s,l,s2,l2,s3,l3,s4,l4)=>([.agg [.int .i64 s,.sl (l.map aa),.int .i64 s2,.sl (l2.map aa)],.agg [.int .i64 s3,.sl (l3.map aa),.int .i64 s4,.sl (l4.map aa)]]:List Data)) b→a=b:=by
  rintro⟨s1,l1,s21,l21,s31,l31,s41,l41⟩ ⟨s2,l2,s22,l22,s32,l32,s42,l42⟩ h;simp only[List.cons.injEq,Data.agg.injEq,Data.int.injEq,Data.sl.injEq] at h;exact X7 h.1.1.2 (X7 (af aj _ _ h.1.2.1) (X7 h.1.2.2.1.2 (X7 (af aj _ _ h.1.2.2.2.1) (X7 h.2.1.1.2 (X7 (af aj _ _ h.2.1.2.1) (X7 h.2.1.2.2.1.2 (af aj _ _ h.2.1.2.2.2.1)))))))
@[go_sem] theorem oU (s:Int) (l:List Int) (s2:Int) (l2:List Int) (s3:Int) (l3:List Int) (s4:Int) (l4:List Int) (hc:l.length≤1000000∧l2.length≤1000000∧l3.length≤1000000∧l4.length≤1000000):dx [.agg [.int .i64 s,.sl (l.map aa),.int .i64 s2,.sl (l2.map aa)],.agg [.int .i64 s3,.sl (l3.map aa),.int .i64 s4,.sl (l4.map aa)]]=some (.same (.int .i64 (kX ((s,l),(s2,l2)) ((s3,l3),(s4,l4))))):=(aX uG (s,l,s2,l2,s3,l3,s4,l4)).trans (an hc _)
theorem CA (T:Tab) (aE:T aT=mkE ff) (jW:T iu=mkE Ey) (fU:T kt=mkE rC) (s:Int) (l:List Int) (s2:Int) (l2:List Int) (s3:Int) (l3:List Int) (s4:Int) (l4:List Int) (hc:l.length≤1000000∧l2.length≤1000000∧l3.length≤1000000∧l4.length≤1000000) :
  wp T mf_frac_Compare.body (bF mf_frac_Compare.res (.same (.int .i64 (kX ((s,l),(s2,l2)) ((s3,l3),(s4,l4)))))) ⟨ax [.dat (.agg [.int .i64 s,.sl (l.map aa),.int .i64 s2,.sl (l2.map aa)]),.dat (.agg [.int .i64 s3,.sl (l3.map aa),.int .i64 s4,.sl (l4.map aa)])],emp⟩:=by
 refine ap ?_;simp only[mf_frac_Compare];obtain⟨hl1,hl2,hl3,hl4⟩:=hc
 by_cases hr:bf ((s,l),(s2,l2))=true
 ·by_cases hr2:bf ((s3,l3),(s4,l4))=true
  ·obtain⟨x,hx,e⟩:=(kH _).1 hr
   obtain⟨y,hy,e2⟩:=(kH _).1 hr2;have hm:kX ((s,l),(s2,l2)) ((s3,l3),(s4,l4))=kD x y:=by rw[e,e2,p9 hx hy]
   rw[hm];clear hm;have ea:(s,l)=aS x.num:=congrArg YL e;have eb:(s2,l2)=aS x.den:=congrArg Prod.snd e;have ec:(s3,l3)=aS y.num:=congrArg YL e2;have ed:(s4,l4)=aS y.den:=congrArg Prod.snd e2;clear e e2;have hxd:=tg hx;have hyd:=tg hy;have hx0:=den_pos x;have hy0:=den_pos y;have hxn:=hx.1;have hyn:=hy.1;unfold kD;generalize x.num=P at *;generalize (x.den:Int)=Q at *;generalize y.num=R at *;generalize (y.den:Int)=S at *
   cases ea
   cases eb
   cases ec
   cases ed;simp only[go_sem,go_sem_proc,X8,aE,jW,fU,hl1,hl2,hl3,hl4,hr,hr2];refine ae [5,6,7,8] [135002,135003] (fun ((sg,p,q,r,t):Int × Int × Int × Int × Int) tm mem=>(sg=1∨sg = -1)∧0<q∧0<t∧p.natAbs<LIM∧q.natAbs<LIM∧r.natAbs<LIM∧t.natAbs<LIM∧(P*S-R*Q).sign=sg*(p*t-r*q).sign∧tm 9 = .dat (.int .i64 sg)∧mem 135005=some (0,[.dat (.int .i64 p.sign),.dat (.sl ((dg p.natAbs).map aa))])∧mem 135006=some (0,[.dat (.int .i64 q.sign),.dat (.sl ((dg q.natAbs).map aa))])∧mem 135007=some (0,[.dat (.int .i64 r.sign),.dat (.sl ((dg r.natAbs).map aa))])∧mem 135008=some (0,[.dat (.int .i64 t.sign),.dat (.sl ((dg t.natAbs).map aa))])) (fun (_,_,q,_,_)=>q.natAbs) (1,P,Q,R,S) (by refine⟨.inl rfl,hx0,hy0,hxn,hxd,hyn,hyd,by rw[XY],rfl,?_,?_,?_,?_⟩<;>rfl) ?_
   intro vs ms hvs hms;simp only[go_sem,go_sem_proc,X8,aE,jW,fU] at hvs hms;subst hvs hms;rintro⟨sg,p,q,r,t⟩ tm mem hk hm ⟨hsg,hq0,ht0,hp,hq,hrr,ht,hval,h9,m5,m6,m7,m8⟩;simp only[go_sem,go_sem_proc,X8,aE,jW,fU,List.cons.injEq] at hk hm;obtain⟨h5,h6,h7,h8⟩:=hk;have lp:=eX hp;have lq:=eX hq;have lr:=eX hrr;have lt:=eX ht;have hd1:=wM hp hq hq0;have hd2:=wM hrr ht ht0;have bx:=my (y:=q) hp (by omega);have by':=my (y:=t) hrr (by omega)
   have lx:=eX bx;have ly:=eX by'
   have hcm:u5 ((p.fdiv q).sign,dg (p.fdiv q).natAbs) ((r.fdiv t).sign,dg (r.fdiv t).natAbs)=fY (p.fdiv q) (r.fdiv t):=za bx by'
   have bu:=rb (p:=p) hq0;have bv:=rb (p:=r) ht0;have hneg1:IntKind.i64.wrap (0-sg) = -sg:=by rcases hsg with rfl | rfl<;>rfl
   rcases YJ (p.fdiv q) (r.fdiv t) with hlt | heq | hgt
   ·have hv:=IP hq0 ht0 hlt
    rw[qd hlt] at hcm;rw[hval,Yo hv];have hw:IntKind.i64.wrap (sg * -1)=sg * -1:=by rcases hsg with rfl | rfl<;>rfl
    refine qI ?_
    repeat' (intro h<;>simp only[h,go_sem,go_sem_proc,X8,aE,jW,fU,h5,h6,h7,h8,h9,hm,m5,m6,m7,m8,lp,lq,lr,lt,lx,ly,hd1,hd2,hcm,hw,dc,bE,show ((-1:Int)==0)=false from rfl]<;>try refine qS ?_ ?_)
   ·have hv:=O5 heq
    rw[heq,sS] at hcm
    have hw2:∀ a:Int,-1≤a→a≤1→IntKind.i64.wrap (sg*a)=sg*a:=by
     intro a h1 h2;rcases hsg with rfl | rfl<;>exact ak _ (by omega) (by omega)
    rw[heq] at hd1 lx;have bul:(p.fmod q).natAbs<LIM:=by omega
    have bvl:(r.fmod t).natAbs<LIM:=by omega
    rw[hv] at hval;generalize p.fmod q=u at *;generalize r.fmod t=v at *
    by_cases hu:u=0
    ·subst hu
     have hs:(0*t-v*q).sign=(0:Int).sign-v.sign:=by
      rw[XZ,YQ,Ye,Yb,Yf hq0,X1,YR,YQ]
     rw[hs] at hval;rw[hval];have h3:=dY v;have hw0:IntKind.i64.wrap ((0:Int).sign-v.sign)=(0:Int).sign-v.sign:=ak _ (by rw[YR];omega) (by rw[YR];omega);have hw:=hw2 ((0:Int).sign-v.sign) (by rw[YR];omega) (by rw[YR];omega);refine qI ?_
     repeat' (intro h<;>simp only[h,go_sem,go_sem_proc,X8,aE,jW,fU,h5,h6,h7,h8,h9,hm,m5,m6,m7,m8,lp,lq,lr,lt,lx,ly,hd1,hd2,hcm,hw,hw0,dc,bE,show ((0:Int)==0)=true from rfl,show ((0:Int).sign==0)=true from rfl]<;>try refine qS ?_ ?_)
    ·have hu0:0<u:=by omega
     have hu1:(u.sign==0)=false:=by simpa using hu
     by_cases hv0:v=0
     ·subst hv0
      have hs:(u*t-0*q).sign=u.sign-(0:Int).sign:=by
       rw[XZ,YS,Yb,Yf ht0,X1,YR,YS]
      rw[hs] at hval;rw[hval];have h3:=dY u;have hw0:IntKind.i64.wrap (u.sign-(0:Int).sign)=u.sign-(0:Int).sign:=ak _ (by rw[YR];omega) (by rw[YR];omega);have hw:=hw2 (u.sign-(0:Int).sign) (by rw[YR];omega) (by rw[YR];omega);refine qI ?_
      repeat' (intro h<;>simp only[h,go_sem,go_sem_proc,X8,aE,jW,fU,h5,h6,h7,h8,h9,hm,m5,m6,m7,m8,lp,lq,lr,lt,lx,ly,hd1,hd2,hcm,hw,hw0,hu1,dc,bE,show ((0:Int)==0)=true from rfl,show ((0:Int).sign==0)=true from rfl]<;>try refine qS ?_ ?_)
     ·have hv1:(v.sign==0)=false:=by simpa using hv0
      refine qI ?_
      repeat' (intro h<;>simp only[h,go_sem,go_sem_proc,X8,aE,jW,fU,h5,h6,h7,h8,h9,hm,m5,m6,m7,m8,lp,lq,lr,lt,lx,ly,hd1,hd2,hcm,hu1,hv1,hneg1,dc,bE,show ((0:Int)==0)=true from rfl]<;>try refine qS ?_ ?_)
      refine⟨(-sg,q,u,t,v),by dsimp only;omega,by dsimp only;omega,by dsimp only;omega,by dsimp only;omega,by dsimp only;omega,by dsimp only;omega,by dsimp only;omega,by dsimp only;omega,?_,by simp [go_sem],by simp [go_sem],by simp [go_sem],by simp [go_sem],by simp [go_sem]⟩
      dsimp only;rw[hval,vW (q*v) (t*u),Int.neg_mul_neg,YC t u,YC q v]
   ·have hv:=IP ht0 hq0 hgt
    rw[pD hgt] at hcm;rw[hval,vW,Yo hv];have hw:IntKind.i64.wrap (sg*1)=sg * -(-1):=by rcases hsg with rfl | rfl<;>rfl
    refine qI ?_
    repeat' (intro h<;>simp only[h,go_sem,go_sem_proc,X8,aE,jW,fU,h5,h6,h7,h8,h9,hm,m5,m6,m7,m8,lp,lq,lr,lt,lx,ly,hd1,hd2,hcm,hw,dc,bE,show ((1:Int)==0)=false from rfl]<;>try refine qS ?_ ?_)
  ·have hr2:bf ((s3,l3),(s4,l4))=false:=by simpa using hr2
   have hm:kX ((s,l),(s2,l2)) ((s3,l3),(s4,l4))=0:=by unfold kX;rw[if_pos hr,if_neg (by simp [hr2])]
   rw[hm];refine qI ?_
   repeat' (intro h<;>simp only[h,go_sem,go_sem_proc,X8,aE,jW,fU,hl1,hl2,hl3,hl4,hr,hr2]<;>try refine qS ?_ ?_)
 ·have hr:bf ((s,l),(s2,l2))=false:=by simpa using hr
  have hm:kX ((s,l),(s2,l2)) ((s3,l3),(s4,l4))=0:=by unfold kX;rw[if_neg (by simp [hr])]
  rw[hm];refine qI ?_
  repeat' (intro h<;>simp only[h,go_sem,go_sem_proc,X8,aE,jW,fU,hl1,hl2,hl3,hl4,hr]<;>try refine qS ?_ ?_)
end Go.Mini
