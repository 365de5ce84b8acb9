/- A part of the proof. -/
import Derived.Test.YtdbkjjoedjfmpaaGreatM05
import Derived.Test.YtdbkjjoedjfmpaaGreatM04
set_option linter.unusedSimpArgs false
set_option linter.unusedVariables false
open Nat renaming div_add_mod → XV, eq_zero_or_pos → XW, mod_lt → XX, zero_mod → X7, mul_le_mul_right → X8, div_le_self → X9, le_of_lt → Yg, pos_of_ne_zero → Ym, reduceMul → YC, gcd → YH
open Int renaming ofNat_sub → XY, natCast_add → XZ, mul_neg → X0, mul_add → X1, neg_mul → X2, one_mul → X3, zero_mul → X4, mul_zero → X5, mul_one → X6, natAbs_mul → Ya, natAbs_natCast → Yb, sign_mul → Yf, natAbs_neg → Yh, sign_neg → Yi, sign_eq_one_of_pos → Yj, sign_sign → Yk, sign_eq_neg_one_of_neg → Ys, natCast_zero → Yt, cast_ofNat_Int → Yu, mul_nonneg → Yz, le_of_lt → YA, pow_pos → YB, reducePow → YD, toNat_natCast → YF, mul_comm → YG, fdiv_eq_ediv_of_nonneg → YM, lt_trichotomy → YN, mul_ne_zero → YR, mul_fdiv_add_fmod → YT, zero_sub → YU, sign_zero → YV, sub_zero → YW
open Prod renaming ext → Yc, ext_iff → Yp, fst → YP
open Bool renaming false_eq_true → Yd, and_false → Yn, false_and → Yo, and_eq_true → YK, true_and → YL
open List renaming map_nil → Ye, length_map → Yl, append_nil → Yr, take_length → Yv, length → Yw, length_append → Yx, append_assoc → Yy, getElem?_map → YE
open Decidable renaming em → Yq
open Rat renaming divInt → YI, num_divInt_den → YJ, neg_divInt_neg → YO, divInt_mul_divInt → YQ, sub_eq_add_neg → YS
namespace Go.Mini
open Go
set_option maxRecDepth 10000
set_option maxHeartbeats 2000000
def ji (a b:Raw):Raw × Raw × Int :=
 if (aH a&&aH b)=true then
  if gU b=0 then ((0,[]),(0,[]),15) else (aO ((gU a).fdiv (gU b)),aO ((gU a).fmod (gU b)),0)
 else ((0,[]),(0,[]),1)
def dc (x:Raw × Raw × Int):Data:=.tup [.agg (bG x.1),.agg (bG x.2.1),.int .i64 x.2.2]
theorem EN {x y q r:Int} (h:r+y*q=x) (hr:(0≤r∧r<y)∨(y<r∧r≤0)):x.fdiv y=q∧x.fmod y=r:=by
 rcases hr with ⟨h1,h2⟩ | ⟨h1,h2⟩
 ·exact (Int.fdiv_fmod_unique (by omega)).2 ⟨h,h1,h2⟩
 ·exact (Int.fdiv_fmod_unique' (by omega)).2 ⟨h,h1,h2⟩
theorem oM {x y:Int} (h:x.sign*y.sign<0) (hm:x.natAbs % y.natAbs≠0) :
  x.fdiv y = -((x.natAbs / y.natAbs+1:Nat):Int)∧x.fmod y=y.sign*((y.natAbs-x.natAbs % y.natAbs:Nat):Int):=by
 have h2:=XV x.natAbs y.natAbs;generalize hQ:x.natAbs / y.natAbs=Q at *;generalize hR:x.natAbs % y.natAbs=R at *
 have hy:0<y.natAbs:=by
  rcases XW y.natAbs with h0 | h0
  ·rw[Int.natAbs_eq_zero.1 h0] at h;simp at h
  ·exact h0
 have hlt:R<y.natAbs:=by rw[←hR];exact XX _ hy
 have h2':(y.natAbs:Int)*Q+R=x.natAbs:=by exact_mod_cast h2
 refine EN ?_ ?_
 ·rcases cz x with ⟨e,h1⟩ | ⟨e,h1⟩ | ⟨e,h1⟩<;>rcases cz y with ⟨e',h3⟩ | ⟨e',h3⟩ | ⟨e',h3⟩<;>rw[e,e'] at h<;>first | omega | rw[e']
  ·rw[XY (by omega),XZ,X0,X1]
   have:(y.natAbs:Int) = -y:=by omega
   rw[this] at h2' ⊢;rw[X2] at h2';omega
  ·rw[XY (by omega),XZ,X0,X1]
   have:(y.natAbs:Int)=y:=by omega
   rw[this] at h2' ⊢;omega
 ·rcases cz y with ⟨e',h3⟩ | ⟨e',h3⟩ | ⟨e',h3⟩<;>rw[e']<;>omega
theorem ls {x y:Int} (hy:y≠0) (h:¬ (x.sign*y.sign<0∧x.natAbs % y.natAbs≠0)) :
  x.fdiv y=x.sign*y.sign*((x.natAbs / y.natAbs:Nat):Int)∧x.fmod y=x.sign*((x.natAbs % y.natAbs:Nat):Int):=by
 have h2:=XV x.natAbs y.natAbs;have hlt:x.natAbs % y.natAbs<y.natAbs:=XX _ (by omega);generalize hQ:x.natAbs / y.natAbs=Q at *;generalize hR:x.natAbs % y.natAbs=R at *;have h2':(y.natAbs:Int)*Q+R=x.natAbs:=by exact_mod_cast h2
 refine EN ?_ ?_
 ·rcases cz x with ⟨e,h1⟩ | ⟨e,h1⟩ | ⟨e,h1⟩<;>rcases cz y with ⟨e',h3⟩ | ⟨e',h3⟩ | ⟨e',h3⟩<;>first | omega | (rw[e,e'])
  ·rw[show (y.natAbs:Int)=y by omega] at h2';simp only[X3];omega
  ·rw[show (y.natAbs:Int) = -y by omega,X2] at h2';simp only[X3,X2,X0];omega
  ·simp only[X4,X5];omega
  ·simp only[X4,X5];omega
  ·rw[show (y.natAbs:Int)=y by omega] at h2';simp only[X3,X2,X0,X6];omega
  ·rw[show (y.natAbs:Int) = -y by omega,X2] at h2';simp only[X3,X2,X0,Int.neg_neg];omega
 ·have hR0:x.natAbs=0→R=0:=by
   intro h0;rw[←hR,h0,X7]
  rcases cz x with ⟨e,h1⟩ | ⟨e,h1⟩ | ⟨e,h1⟩<;>rcases cz y with ⟨e',h3⟩ | ⟨e',h3⟩ | ⟨e',h3⟩<;>rw[e,e'] at h<;>rw[e]<;>omega
theorem mg {x y:Int} (hx:x.natAbs<LIM) (hy0:y≠0):(x.fdiv y).natAbs<LIM:=by
 by_cases h:x.sign*y.sign<0∧x.natAbs % y.natAbs≠0
 ·have hf:=(oM h.1 h.2).1
  have h2:=XV x.natAbs y.natAbs
  have:x.natAbs / y.natAbs+1≤x.natAbs:=by
   have hy2:2≤y.natAbs:=by
    rcases Nat.lt_or_ge y.natAbs 2 with h0 | h0
    ·have:y.natAbs=1:=by omega
     rw[this,Nat.mod_one] at h;exact absurd rfl h.2
    ·exact h0
   have h3:2*(x.natAbs / y.natAbs)≤y.natAbs*(x.natAbs / y.natAbs):=X8 _ hy2;omega
  generalize x.natAbs / y.natAbs=Q at *;omega
 ·have hf:=(ls hy0 h).1
  have h3:x.natAbs / y.natAbs≤x.natAbs:=X9 _ _
  have h4:(x.fdiv y).natAbs≤x.natAbs / y.natAbs:=by
   rw[hf,Ya,Ya,Yb];have h1:x.sign.natAbs≤1:=by have:=d7 x;omega
   have h2:y.sign.natAbs≤1:=by have:=d7 y;omega
   have:=Nat.mul_le_mul h1 h2;have:=X8 (x.natAbs / y.natAbs) this;omega
  omega
theorem zU {x y:Int} (hy:y.natAbs<LIM) (hy0:y≠0):(x.fmod y).natAbs<LIM:=by
 by_cases h:x.sign*y.sign<0∧x.natAbs % y.natAbs≠0
 ·have hf:=(oM h.1 h.2).2
  rcases cz y with ⟨e',h3⟩ | ⟨e',h3⟩ | ⟨e',h3⟩<;>rw[e'] at hf<;>omega
 ·have hf:=(ls hy0 h).2
  have hlt:x.natAbs % y.natAbs<y.natAbs:=XX _ (by omega);rcases cz x with ⟨e',h3⟩ | ⟨e',h3⟩ | ⟨e',h3⟩<;>rw[e'] at hf<;>omega
theorem kL {x y:Int} (hx:x.natAbs<LIM) (hy:y.natAbs<LIM) (h0:y≠0):ji (aO x) (aO y)=(aO (x.fdiv y),aO (x.fmod y),0):=by
 unfold ji;rw[bI hx,bI hy,aQ,aQ,if_pos (by rfl),if_neg h0]
noncomputable def Ef:List Data→Option PRes:=FF (α:=Int × (List Int) × Int × (List Int)) (fun (s,l,s2,l2)=>([.agg [.int .i64 s,.sl (l.map aa)],.agg [.int .i64 s2,.sl (l2.map aa)]]:List Data)) (fun (s,l,s2,l2)=>aF (l.length≤1000000∧l2.length≤1000000) (.same (dc (ji (s,l) (s2,l2)))))
theorem GJ:∀ a b:Int × (List Int) × Int × (List Int),(fun (s,l,s2,l2)=>([.agg [.int .i64 s,.sl (l.map aa)],.agg [.int .i64 s2,.sl (l2.map aa)]]:List Data)) a=(fun (s,l,s2,l2)=>([.agg [.int .i64 s,.sl (l.map aa)],.agg [.int .i64 s2,.sl (l2.map aa)]]:List Data)) b→a=b:=by
  rintro⟨s1,l1,s21,l21⟩ ⟨s2,l2,s22,l22⟩ h;simp only[List.cons.injEq,Data.agg.injEq,Data.int.injEq,Data.sl.injEq] at h;exact Yc h.1.1.2 (Yc (af aj _ _ h.1.2.1) (Yc h.2.1.1.2 (af aj _ _ h.2.1.2.1)))
@[go_sem] theorem Qw (s:Int) (l:List Int) (s2:Int) (l2:List Int) (hc:l.length≤1000000∧l2.length≤1000000):Ef [.agg [.int .i64 s,.sl (l.map aa)],.agg [.int .i64 s2,.sl (l2.map aa)]]=some (.same (dc (ji (s,l) (s2,l2)))):=(aV GJ (s,l,s2,l2)).trans (an hc _)
theorem QB (T:Tab) (al:T aY=mkE en) (iN:T kT=mkE Es) (gy:T kM=mkE EI) (gB:T jx=mkE EF) (aJ:T bA=mkE jN) (s:Int) (l:List Int) (s2:Int) (l2:List Int) (hc:l.length≤1000000∧l2.length≤1000000) :
  wp T mf_big_Div.body (bE mf_big_Div.res (.same (dc (ji (s,l) (s2,l2))))) ⟨ax [.dat (.agg [.int .i64 s,.sl (l.map aa)]),.dat (.agg [.int .i64 s2,.sl (l2.map aa)])],emp⟩:=by
 refine ap ?_;simp only[mf_big_Div];obtain⟨hl1,hl2⟩:=hc
 by_cases hr:aH (s,l)=true
 ·by_cases hr2:aH (s2,l2)=true
  ·obtain⟨x,hx,e⟩:=(bm _).1 hr
   obtain⟨y,hy,e2⟩:=(bm _).1 hr2
   by_cases hy0:y=0
   ·have hm:ji (s,l) (s2,l2)=((0,[]),(0,[]),15):=by
     rw[e,e2];unfold ji
     rw[bI hx,bI hy,aQ,aQ,if_pos (by rfl),if_pos hy0]
    rw[hm]
    cases e
    cases e2;have h0:((y.sign:Int)==0)=true:=by rw[hy0];rfl
    simp only[go_sem,go_sem_proc,Yd,al,iN,gy,gB,aJ,hr,hr2,hl1,hl2,h0,bG,dc,Ye]
    repeat' (first|refine qS ?_ ?_|fail)<;>intro h<;>simp only[h,go_sem,go_sem_proc,Yd,al,iN,gy,gB,aJ,hr,hr2,hl1,hl2,h0,bG,dc,Ye]
   ·have hm:ji (s,l) (s2,l2)=(aO (x.fdiv y),aO (x.fmod y),0):=by
     rw[e,e2];exact kL hx hy hy0
    rw[hm];clear hm
    cases e
    cases e2;have hlx:=fB hx;have hly:=fB hy;have hy0':(y.sign==0)=false:=by rw[beq_eq_false_iff_ne,Ne,Int.sign_eq_zero_iff_zero];exact hy0
    have hypos:0<y.natAbs:=by omega
    have h1:=d7 x;have h2:=d7 y;have hp:x.sign*y.sign=(x*y).sign:=(Yf x y).symm;have h3:=d7 (x*y);have hw:IntKind.i64.wrap (x.sign*y.sign)=x.sign*y.sign:=by rw[hp];exact ak _ (by omega) (by omega)
    have hdiv:=Bc x.natAbs y.natAbs ⟨by omega,by omega,hypos⟩
    simp only[digs] at hdiv;have hq:=mg (y:=y) hx hy0;have hr3:=zU (x:=x) hy hy0;have hlq:x.natAbs / y.natAbs<LIM:=Nat.lt_of_le_of_lt (X9 _ _) hx;have hlq':(dg (x.natAbs / y.natAbs)).length≤60:=dg_len.2 hlq;have hlr:x.natAbs % y.natAbs<LIM:=Nat.lt_trans (XX _ hypos) hy;have hlr':(dg (x.natAbs % y.natAbs)).length≤60:=dg_len.2 hlr
    by_cases hlow:x.sign*y.sign<0∧x.natAbs % y.natAbs≠0
    ·obtain⟨eq,er⟩:=oM hlow.1 hlow.2
     have hne:decide (((dg (x.natAbs % y.natAbs)).length:Int)>0)=true:=by
      have:dg (x.natAbs % y.natAbs)≠[]:=by rw[Ne,nf];exact hlow.2
      have:=List.length_pos_iff.2 this;exact decide_eq_true (by omega)
     have hneg:decide (x.sign*y.sign<0)=true:=decide_eq_true hlow.1;have hd1:dg 1=[1]:=by simp [dg,dgF]
     have hl1d:(dg 1).length=1:=by rw[hd1];rfl
     have hadd:=zW (x.natAbs / y.natAbs) 1 ⟨by omega,by omega⟩
     simp only[digs,hd1,List.map_cons,Ye,aa] at hadd;have hsub:=tL y.natAbs (x.natAbs % y.natAbs) ⟨by omega,Yg (XX _ hypos)⟩
     simp only[digs] at hsub
     have hla:(dg (x.natAbs / y.natAbs+1)).length≤1000000:=by
      have:(x.natAbs / y.natAbs+1)<LIM:=by rw[eq] at hq;rw[Yh,Yb] at hq;exact hq
      have:=(dg_len (k:=60)).2 this;omega
     have hlb:(dg (y.natAbs-x.natAbs % y.natAbs)).length≤1000000:=by have:=sM y.natAbs (x.natAbs % y.natAbs);omega
     have hs1:eX (-1) (dg (x.natAbs / y.natAbs+1))=aO (x.fdiv y):=cW (by rw[eq,Yh,Yb]) fun _=>by rw[eq,Yi,Yj (show (0:Int)<((x.natAbs / y.natAbs+1:Nat):Int) by exact Int.natCast_pos.2 (Nat.succ_pos _))]
     have hs2:eX y.sign (dg (y.natAbs-x.natAbs % y.natAbs))=aO (x.fmod y):=by
      refine cW ?_ fun hn=>?_
      ·rw[er];rcases cz y with ⟨e',h3⟩ | ⟨e',h3⟩ | ⟨e',h3⟩<;>rw[e']<;>omega
      ·rw[er,Yf,Yk,Yj (show (0:Int)<((y.natAbs-x.natAbs % y.natAbs:Nat):Int) by omega),X6]
     simp only[go_sem,go_sem_proc,Yd,al,iN,gy,gB,aJ,hr,hr2,hl1,hl2,hy0',hw,hdiv,hne,hneg,hadd,hsub,hla,hlb,hs1,hs2,aa,Yl,bG,dc,cL]
     repeat' (first|refine qS ?_ ?_|fail)<;>intro h<;>simp only[h,go_sem,go_sem_proc,Yd,al,iN,gy,gB,aJ,hr,hr2,hl1,hl2,hy0',hw,hdiv,hne,hneg,hadd,hsub,hla,hlb,hs1,hs2,aa,Yl,bG,dc,cL]
    ·obtain⟨eq,er⟩:=ls hy0 hlow
     have hlow':(decide (x.sign*y.sign<0)=true∧decide (((dg (x.natAbs % y.natAbs)).length:Int)>0)=false)∨decide (x.sign*y.sign<0)=false:=by
      by_cases hn:x.sign*y.sign<0
      ·left
       have:x.natAbs % y.natAbs=0:=Decidable.not_not.1 fun h=>hlow ⟨hn,h⟩
       rw[this];exact⟨decide_eq_true hn,rfl⟩
      ·right;exact decide_eq_false hn
     have hla:(dg (x.natAbs / y.natAbs)).length≤1000000:=by omega
     have hlb:(dg (x.natAbs % y.natAbs)).length≤1000000:=by omega
     have hs1:eX (x.sign*y.sign) (dg (x.natAbs / y.natAbs))=aO (x.fdiv y):=by
      refine cW ?_ fun hn=>?_
      ·rw[eq]
       have hgen:∀ Q:Nat,(x=0→Q=0)→(x.sign*y.sign*(Q:Int)).natAbs=Q:=by
        intro Q h0;rcases cz x with ⟨e,h1⟩ | ⟨e,h1⟩ | ⟨e,h1⟩<;>rcases cz y with ⟨e',h3⟩ | ⟨e',h3⟩ | ⟨e',h3⟩<;>rw[e,e']<;>first | omega | (rw[h0 h1];rfl)
       exact hgen _ fun h0=>by rw[h0];exact Nat.zero_div _
      ·rw[eq,hp,Yf,Yf,Yf,Yk,Yk,Yj (show (0:Int)<((x.natAbs / y.natAbs:Nat):Int) from Int.natCast_pos.2 (Ym hn)),X6]
     have hs2:eX x.sign (dg (x.natAbs % y.natAbs))=aO (x.fmod y):=by
      refine cW ?_ fun hn=>?_
      ·rw[er]
       have hgen:∀ Q:Nat,(x=0→Q=0)→(x.sign*(Q:Int)).natAbs=Q:=by
        intro Q h0;rcases cz x with ⟨e,h1⟩ | ⟨e,h1⟩ | ⟨e,h1⟩<;>rw[e]<;>first | omega | (rw[h0 h1];rfl)
       exact hgen _ fun h0=>by rw[h0];exact X7 _
      ·rw[er,Yf,Yk,Yj (show (0:Int)<((x.natAbs % y.natAbs:Nat):Int) from Int.natCast_pos.2 (Ym hn)),X6]
     rcases hlow' with ⟨hlow1,hlow2⟩ | hlow1
     ·simp only[go_sem,go_sem_proc,Yd,al,iN,gy,gB,aJ,hr,hr2,hl1,hl2,hy0',hw,hdiv,hlow1,hlow2,hla,hlb,hs1,hs2,aa,Yl,bG,dc,cL]
      repeat' (first|refine qS ?_ ?_|fail)<;>intro h<;>simp only[h,go_sem,go_sem_proc,Yd,al,iN,gy,gB,aJ,hr,hr2,hl1,hl2,hy0',hw,hdiv,hlow1,hlow2,hla,hlb,hs1,hs2,aa,Yl,bG,dc,cL]
     ·simp only[go_sem,go_sem_proc,Yd,al,iN,gy,gB,aJ,hr,hr2,hl1,hl2,hy0',hw,hdiv,hlow1,hla,hlb,hs1,hs2,aa,Yl,bG,dc,cL]
      repeat' (first|refine qS ?_ ?_|fail)<;>intro h<;>simp only[h,go_sem,go_sem_proc,Yd,al,iN,gy,gB,aJ,hr,hr2,hl1,hl2,hy0',hw,hdiv,hlow1,hla,hlb,hs1,hs2,aa,Yl,bG,dc,cL]
  ·have hr2:aH (s2,l2)=false:=by simpa using hr2
   have hm:ji (s,l) (s2,l2)=((0,[]),(0,[]),1):=by unfold ji;rw[hr2,Yn];rfl
   rw[hm];simp only[go_sem,go_sem_proc,Yd,al,iN,gy,gB,aJ,hr,hr2,hl1,hl2,bG,dc,Ye]
   repeat' (first|refine qS ?_ ?_|fail)<;>intro h<;>simp only[h,go_sem,go_sem_proc,Yd,al,iN,gy,gB,aJ,hr,hr2,hl1,hl2,bG,dc,Ye]
 ·have hr:aH (s,l)=false:=by simpa using hr
  have hm:ji (s,l) (s2,l2)=((0,[]),(0,[]),1):=by unfold ji;rw[hr,Yo];rfl
  rw[hm];simp only[go_sem,go_sem_proc,Yd,al,iN,gy,gB,aJ,hr,hl1,hl2,bG,dc,Ye]
  repeat' (first|refine qS ?_ ?_|fail)<;>intro h<;>simp only[h,go_sem,go_sem_proc,Yd,al,iN,gy,gB,aJ,hr,hl1,hl2,bG,dc,Ye]
def bZ (n:Int):Prop:=-9223372036854775808≤n∧n≤9223372036854775807
theorem Lu {n:Nat} (h:n≤9223372036854775808):n<LIM:=by
 unfold LIM;refine Nat.lt_of_lt_of_le (m:=1048576^4) ?_ (Nat.pow_le_pow_right (by omega) (by omega));omega
theorem jC {n:Int} (h:bZ n):n.natAbs<LIM:=Lu (by unfold bZ at h;omega)
theorem rI (n:Int) (h1:-18446744073709551616≤n) (h2:n<0):IntKind.u64.wrap n=n+18446744073709551616:=by
 unfold IntKind.wrap;simp [IntKind.bits,IntKind.signed];omega
noncomputable def y8:List Data→Option PRes:=FF (α:=Int) (fun (n:Int)=>([.int .i64 n]:List Data)) (fun (n:Int)=>aF (bZ n) (.same (.agg (bG (aO n)))))
theorem AQ:∀ a b:Int,(fun (n:Int)=>([.int .i64 n]:List Data)) a=(fun (n:Int)=>([.int .i64 n]:List Data)) b→a=b:=by
  intro n1 n2 h;simp only[List.cons.injEq,Data.int.injEq,Data.agg.injEq,Data.sl.injEq,Data.bool.injEq,Data.str.injEq,Data.ptr.injEq,Data.tup.injEq,Prod.mk.injEq,true_and,and_true] at h ⊢
  first | exact h | simpa [Yp,and_assoc] using h | grind
@[go_sem] theorem OP (n:Int) (hc:bZ n):y8 [.int .i64 n]=some (.same (.agg (bG (aO n)))):=(aV AQ n).trans (an hc _)
theorem K1 (T:Tab) (aJ:T bA=mkE jN) (n:Int) (hc:bZ n) :
  wp T mf_big_Of.body (bE mf_big_Of.res (.same (.agg (bG (aO n))))) ⟨ax [.dat (.int .i64 n)],emp⟩:=by
 refine ap ?_;simp only[mf_big_Of];have hc':=hc;unfold bZ at hc';obtain⟨hn1,hn2⟩:=hc';have hs:∀ s:Int,(n≠0→s=n.sign)→eX s (dg n.natAbs)=aO n:=fun s h=>cW rfl fun hne=>h (by omega)
 have hlen:(dg n.natAbs).length≤60:=dg_len.2 (jC hc);rcases Yq (n<0) with hneg | hpos
 ·have hw:=rI n (by omega) hneg
  have hw2:IntKind.u64.wrap (0-(n+18446744073709551616))=(n.natAbs:Int):=by
   rw[rI _ (by omega) (by omega)];omega
  simp only[go_sem,go_sem_proc,Yd,aJ,hneg,hw,hw2,decide_true];refine ae [2,3] [150002] (fun ((u,g,l):Nat × Nat × List Int) tm mem=>u≤9223372036854775808∧dg n.natAbs=l++dg u∧tm 4 = .dat (.int .u64 u)∧tm 5 = .ref 150021 g 1 0 l.length∧mem 150021=some (g,az aa l)) (fun (u,_)=>u) (n.natAbs,0,[]) (by refine⟨by omega,rfl,?_,rfl,rfl⟩;rfl) ?_;intro vs ms hvs hms;simp only[go_sem,go_sem_proc,Yd,aJ] at hvs hms;subst hvs hms;rintro⟨u,g,l⟩ tm mem hk hm ⟨hu,hd,h4,h5,hm21⟩;simp only[go_sem,go_sem_proc,Yd,aJ,List.cons.injEq] at hk hm;obtain⟨h2,h3⟩:=hk;rcases XW u with h0 | hup
  ·subst h0
   rw[f9,Yr] at hd;rw[hd] at hs hlen;have hlen':l.length≤1000000:=by omega
   have hs':=hs (-1) (fun _=>by exact (Ys hneg).symm);simp only[go_sem,go_sem_proc,Yd,aJ,h2,h3,h4,h5,hm,hm21,hs',hlen',bG,Yt,Yu,Yl,show ¬ ((0:Int)>0) by omega,decide_false,bX bj,Yv]
   repeat' (first|refine qS ?_ ?_|fail)<;>intro h<;>simp only[h,go_sem,go_sem_proc,Yd,aJ,h2,h3,h4,h5,hm,hm21,hs',hlen',bG,Yt,Yu,Yl,show ¬ ((0:Int)>0) by omega,decide_false,bX bj,Yv]
  ·have hul:l.length≤60:=by
    have:=congrArg Yw hd;rw[Yx] at this;omega
   have hgt:decide ((u:Int)>0)=true:=decide_eq_true (by omega);have hap:∀ a:Int,lf 150021 g 1 l.length 8 1 [.dat (.int .i64 a)] (some (g,az aa l))=_:=fun a=>dF bj gG 150021 g 8 l a rfl (by omega) (by omega)
   have hand:=wy u ⟨by omega,by omega⟩
   have hcv:IntKind.i64.wrap ((u:Int) % 1048576)=(u:Int) % 1048576:=ak _ (by omega) (by omega);simp only[go_sem,go_sem_proc,Yd,aJ,h2,h3,h4,h5,hm,hm21,hgt,hap,hand,hcv,fdivm,show ((20:Int)<0)=False from by simp,if_false,Yl,List.cons.injEq]
   repeat' (first|refine qS ?_ ?_|fail)<;>intro h<;>simp only[h,go_sem,go_sem_proc,Yd,aJ,h2,h3,h4,h5,hm,hm21,hgt,hap,hand,hcv,fdivm,show ((20:Int)<0)=False from by simp,if_false,Yl,List.cons.injEq]
   refine⟨(u / 1048576,g+1,l++[(u:Int) % 1048576]),by dsimp only;omega,by dsimp only;omega,by dsimp only;rw[Yy,hd,jX hup];rfl,by first | rfl | (dsimp only;rw[ko _ ⟨by omega,by omega⟩];rfl),by simp,by simp [go_sem]⟩
 ·have hw:IntKind.u64.wrap n=(n.natAbs:Int):=by rw[ko _ ⟨by omega,by omega⟩];omega
  simp only[go_sem,go_sem_proc,Yd,aJ,hpos,hw,decide_false];refine ae [2,3] [150002] (fun ((u,g,l):Nat × Nat × List Int) tm mem=>u≤9223372036854775808∧dg n.natAbs=l++dg u∧tm 4 = .dat (.int .u64 u)∧tm 5 = .ref 150021 g 1 0 l.length∧mem 150021=some (g,az aa l)) (fun (u,_)=>u) (n.natAbs,0,[]) (by refine⟨by omega,rfl,?_,rfl,rfl⟩;rfl) ?_;intro vs ms hvs hms;simp only[go_sem,go_sem_proc,Yd,aJ] at hvs hms;subst hvs hms;rintro⟨u,g,l⟩ tm mem hk hm ⟨hu,hd,h4,h5,hm21⟩;simp only[go_sem,go_sem_proc,Yd,aJ,List.cons.injEq] at hk hm;obtain⟨h2,h3⟩:=hk;rcases XW u with h0 | hup
  ·subst h0
   rw[f9,Yr] at hd;rw[hd] at hs hlen;have hlen':l.length≤1000000:=by omega
   have hs':=hs 1 (fun _=>by exact (Yj (by omega)).symm);simp only[go_sem,go_sem_proc,Yd,aJ,h2,h3,h4,h5,hm,hm21,hs',hlen',bG,Yt,Yu,Yl,show ¬ ((0:Int)>0) by omega,decide_false,bX bj,Yv]
   repeat' (first|refine qS ?_ ?_|fail)<;>intro h<;>simp only[h,go_sem,go_sem_proc,Yd,aJ,h2,h3,h4,h5,hm,hm21,hs',hlen',bG,Yt,Yu,Yl,show ¬ ((0:Int)>0) by omega,decide_false,bX bj,Yv]
  ·have hul:l.length≤60:=by
    have:=congrArg Yw hd;rw[Yx] at this;omega
   have hgt:decide ((u:Int)>0)=true:=decide_eq_true (by omega);have hap:∀ a:Int,lf 150021 g 1 l.length 8 1 [.dat (.int .i64 a)] (some (g,az aa l))=_:=fun a=>dF bj gG 150021 g 8 l a rfl (by omega) (by omega)
   have hand:=wy u ⟨by omega,by omega⟩
   have hcv:IntKind.i64.wrap ((u:Int) % 1048576)=(u:Int) % 1048576:=ak _ (by omega) (by omega);simp only[go_sem,go_sem_proc,Yd,aJ,h2,h3,h4,h5,hm,hm21,hgt,hap,hand,hcv,fdivm,show ((20:Int)<0)=False from by simp,if_false,Yl,List.cons.injEq]
   repeat' (first|refine qS ?_ ?_|fail)<;>intro h<;>simp only[h,go_sem,go_sem_proc,Yd,aJ,h2,h3,h4,h5,hm,hm21,hgt,hap,hand,hcv,fdivm,show ((20:Int)<0)=False from by simp,if_false,Yl,List.cons.injEq]
   refine⟨(u / 1048576,g+1,l++[(u:Int) % 1048576]),by dsimp only;omega,by dsimp only;omega,by dsimp only;rw[Yy,hd,jX hup];rfl,by first | rfl | (dsimp only;rw[ko _ ⟨by omega,by omega⟩];rfl),by simp,by simp [go_sem]⟩
theorem yQ (k:IntKind) (a b:Int):bits .or k a b=bits .or k b a:=by
 simp only[bits,BitVec.or_comm]
theorem OT (u d:Int) (i:Nat) (hi:(2:Int)^i≤1152921504606846976) (hu:0≤u∧u<2^i) (hd:0≤d) (h:d*2^i<18446744073709551616):bits .or .u64 u (d*2^i)=u+d*2^i:=by
 rw[yQ,Int.add_comm];have h0:0≤d*2^i:=Yz hd (by exact YA (YB (by omega)));refine bits_join .u64 64 (by decide) (fun n h1 h2=>ko n ⟨h1,by omega⟩) i _ _ h0 (Int.mul_emod_left _ _) (by omega) hu.1 hu.2 (by omega)
instance (n:Int):Decidable (bZ n):=by unfold bZ;exact inferInstance
def p9 (a:Raw):Int × Bool:=if aH a=true∧bZ (gU a) then (gU a,true) else (0,false)
noncomputable def uK:List Data→Option PRes:=FF (α:=Int × (List Int)) (fun (s,l)=>([.agg [.int .i64 s,.sl (l.map aa)]]:List Data)) (fun (s,l)=>aF (l.length≤1000000) (.same (.tup [.int .i64 (p9 (s,l)).1,.bool (p9 (s,l)).2])))
theorem yI:∀ a b:Int × (List Int),(fun (s,l)=>([.agg [.int .i64 s,.sl (l.map aa)]]:List Data)) a=(fun (s,l)=>([.agg [.int .i64 s,.sl (l.map aa)]]:List Data)) b→a=b:=by
  rintro⟨s1,l1⟩ ⟨s2,l2⟩ h;simp only[List.cons.injEq,Data.agg.injEq,Data.int.injEq,Data.sl.injEq] at h;exact Yc h.1.1.2 (af aj _ _ h.1.2.1)
@[go_sem] theorem Nm (s:Int) (l:List Int) (hc:l.length≤1000000):uK [.agg [.int .i64 s,.sl (l.map aa)]]=some (.same (.tup [.int .i64 (p9 (s,l)).1,.bool (p9 (s,l)).2])):=(aV yI (s,l)).trans (an hc _)
theorem Iy (T:Tab) (al:T aY=mkE en) (s:Int) (l:List Int) (hc:l.length≤1000000) :
  wp T mf_big_Int.body (bE mf_big_Int.res (.same (.tup [.int .i64 (p9 (s,l)).1,.bool (p9 (s,l)).2]))) ⟨ax [.dat (.agg [.int .i64 s,.sl (l.map aa)])],emp⟩:=by
 refine ap ?_;simp only[mf_big_Int]
 by_cases hr:aH (s,l)=true
 ·obtain⟨z,hz,e⟩:=(bm _).1 hr
  cases e
  have hi:p9 (z.sign,dg z.natAbs)=if bZ z then (z,true) else (0,false):=by
   unfold p9;rw[hr,show gU (z.sign,dg z.natAbs)=z from aQ z];simp
  rw[hi];clear hi;have hs:=cz z
  by_cases h4:(dg z.natAbs).length≤4
  ·have h4':decide (((dg z.natAbs).length:Int)>4)=false:=decide_eq_false (by omega)
   have hvl:=f8 z.natAbs;have hD:=eF z.natAbs;generalize dg z.natAbs=l at *;simp only[go_sem,go_sem_proc,Yd,al,hr,hc,h4',Yl,aa];refine ae [1,17,18] [159001] (fun ((i,u):Nat × Int) tm mem=>i≤l.length∧u=vl (l.take i)∧u<18446744073709551616∧tm 4 = .dat (.int .u64 u)∧tm 19 = .dat (.int .i64 i)) (fun (i,_)=>l.length-i) (0,0) (by refine⟨by omega,rfl,by omega,rfl,rfl⟩) ?_;intro vs ms hvs hms;simp only[go_sem,go_sem_proc,Yd,al] at hvs hms;subst hvs hms;rintro⟨i,u⟩ tm mem hk hm ⟨hi,hu,hu64,ht4,ht19⟩;simp only[go_sem,go_sem_proc,Yd,al,List.cons.injEq] at hk hm;obtain⟨h1,h17,h18⟩:=hk;have hDt:isD (l.take i):=fun d hd=>hD d (List.mem_of_mem_take hd)
   have hu0:0≤u:=by rw[hu];exact cK hDt
   rcases Yq (i<l.length) with hlt | hge
   ·have hx:=List.getElem?_eq_getElem hlt
    have hd:=hD l[i] (List.getElem_mem hlt);have hstep:=ba l i hlt;have hub:=qg hDt;rw[List.length_take,Nat.min_eq_left (Yg hlt),←hu] at hub;rw[←hu] at hstep;generalize l[i]=d at *;have hltd:decide ((i:Int)<(l.length:Int))=true:=decide_eq_true (by omega);have hwd:IntKind.u64.wrap d=d:=ko d ⟨hd.1,by omega⟩
    have hw20:IntKind.i64.wrap (20*(i:Int))=((20*i:Nat):Int):=by rw[ak _ (by omega) (by omega)];omega
    have hmin:min (20*i) 64=20*i:=by omega
    have hn0:(((20*i:Nat):Int)<0)=False:=eq_false (by omega);have hpow:(1048576:Int)^i=2^(20*i):=by rw[Int.pow_mul];rfl
    rw[hpow] at hub hstep
    have hpl:(2:Int)^(20*i)≤1152921504606846976:=by
     obtain rfl | rfl | rfl | rfl:i=0∨i=1∨i=2∨i=3:=by omega
     all_goals decide
    by_cases hbig:i=3∧d>8
    ·obtain⟨rfl,hd8⟩:=hbig
     have hd8':decide (d>8)=true:=decide_eq_true hd8;have h33:(((3:Nat):Int)==3)=true:=rfl
     have hni:¬ bZ z:=by
      have htd:=iV l 4;rw[hvl] at htd;have:0≤vl (l.drop 4):=cK fun d hd=>hD d (List.mem_of_mem_drop hd)
      have h5:=Yz (show (0:Int)≤1048576^(min 4 l.length) from YA (YB (by omega))) this;unfold bZ;simp only[YC,Nat.reduceAdd,YD] at hstep;rw[hstep] at htd;omega
     rw[if_neg hni];simp only[go_sem,go_sem_proc,Yd,al,h1,h17,h18,ht4,ht19,hm,hx,hd.1,hd.2,hltd,hwd,hd8',h33,Yl,YE,List.cons.injEq,aa]
     repeat' (first|refine qS ?_ ?_|fail)<;>intro h<;>simp only[h,go_sem,go_sem_proc,Yd,al,h1,h17,h18,ht4,ht19,hm,hx,hd.1,hd.2,hltd,hwd,hd8',h33,Yl,YE,List.cons.injEq,aa]
    ·have hdb:d*2^(20*i)<18446744073709551616:=by
      obtain rfl | rfl | rfl | rfl:i=0∨i=1∨i=2∨i=3:=by omega
      all_goals simp
      all_goals omega
     have hor:=OT u d (20*i) hpl ⟨hu0,hub⟩ hd.1 hdb;have hdm:0≤d*2^(20*i):=Yz hd.1 (YA (YB (by omega)));have hwm:IntKind.u64.wrap (d*2^(20*i))=d*2^(20*i):=ko _ ⟨hdm,hdb⟩
     have hsum:u+d*2^(20*i)<18446744073709551616:=by
      clear hor hwm hdm hw20 hn0 hpow hpl hstep;obtain rfl | rfl | rfl | rfl:i=0∨i=1∨i=2∨i=3:=by omega
      all_goals simp only[YC,YD] at hub hdb ⊢
      all_goals omega
     by_cases h3:((i:Int)==3)=true
     ·have hd8:decide (d>8)=false:=decide_eq_false fun h=>hbig ⟨by simp at h3;omega,h⟩
      simp only[go_sem,go_sem_proc,Yd,al,h1,h17,h18,ht4,ht19,hm,hx,hd.1,hd.2,hltd,hwd,h3,hd8,hw20,hn0,if_false,YF,hmin,hwm,hor,Yl,YE,List.cons.injEq,aa]
      repeat' (first|refine qS ?_ ?_|fail)<;>intro h<;>simp only[h,go_sem,go_sem_proc,Yd,al,h1,h17,h18,ht4,ht19,hm,hx,hd.1,hd.2,hltd,hwd,h3,hd8,hw20,hn0,if_false,YF,hmin,hwm,hor,Yl,YE,List.cons.injEq,aa]
      exact⟨(i+1,u+d*2^(20*i)),by dsimp only;omega,by dsimp only;omega,by dsimp only;rw[hstep,YG],hsum,rfl,by rw[ak _ (by omega) (by omega)];rfl⟩
     ·have h3:((i:Int)==3)=false:=by simpa using h3
      simp only[go_sem,go_sem_proc,Yd,al,h1,h17,h18,ht4,ht19,hm,hx,hd.1,hd.2,hltd,hwd,h3,hw20,hn0,if_false,YF,hmin,hwm,hor,Yl,YE,List.cons.injEq,aa]
      repeat' (first|refine qS ?_ ?_|fail)<;>intro h<;>simp only[h,go_sem,go_sem_proc,Yd,al,h1,h17,h18,ht4,ht19,hm,hx,hd.1,hd.2,hltd,hwd,h3,hw20,hn0,if_false,YF,hmin,hwm,hor,Yl,YE,List.cons.injEq,aa]
      exact⟨(i+1,u+d*2^(20*i)),by dsimp only;omega,by dsimp only;omega,by dsimp only;rw[hstep,YG],hsum,rfl,by rw[ak _ (by omega) (by omega)];rfl⟩
   ·have hltd:decide ((i:Int)<(l.length:Int))=false:=decide_eq_false (by omega)
    have hil:i=l.length:=by omega
    rw[hil,Yv,hvl] at hu;rcases hs with ⟨hs,hz0⟩ | ⟨hs,hz0⟩ | ⟨hs,hz0⟩
    ·by_cases hr64:u<9223372036854775808
     ·rw[if_pos (by unfold bZ;omega)]
      have hw:IntKind.i64.wrap u=z:=by rw[ak u (by omega) (by omega)];omega
      simp only[go_sem,go_sem_proc,Yd,al,h1,h17,h18,ht4,ht19,hm,hltd,hs,hr64,show decide ((1:Int)<0)=false from rfl,show decide ((1:Int)≥0)=true from rfl,show decide ((-1:Int)<0)=true from rfl,show decide ((-1:Int)≥0)=false from rfl,hw,decide_true,decide_false,Yl]
      repeat' (first|refine qS ?_ ?_|fail)<;>intro h<;>simp only[h,go_sem,go_sem_proc,Yd,al,h1,h17,h18,ht4,ht19,hm,hltd,hs,hr64,show decide ((1:Int)<0)=false from rfl,show decide ((1:Int)≥0)=true from rfl,show decide ((-1:Int)<0)=true from rfl,show decide ((-1:Int)≥0)=false from rfl,hw,decide_true,decide_false,Yl]
     ·rw[if_neg (by unfold bZ;omega)]
      simp only[go_sem,go_sem_proc,Yd,al,h1,h17,h18,ht4,ht19,hm,hltd,hs,hr64,show decide ((1:Int)<0)=false from rfl,show decide ((1:Int)≥0)=true from rfl,show decide ((-1:Int)<0)=true from rfl,show decide ((-1:Int)≥0)=false from rfl,decide_true,decide_false,Yl]
      repeat' (first|refine qS ?_ ?_|fail)<;>intro h<;>simp only[h,go_sem,go_sem_proc,Yd,al,h1,h17,h18,ht4,ht19,hm,hltd,hs,hr64,show decide ((1:Int)<0)=false from rfl,show decide ((1:Int)≥0)=true from rfl,show decide ((-1:Int)<0)=true from rfl,show decide ((-1:Int)≥0)=false from rfl,decide_true,decide_false,Yl]
    ·rw[if_pos (by unfold bZ;omega)]
     have hu0':u=0:=by omega
     subst hz0;subst hu0';simp only[go_sem,go_sem_proc,Yd,al,h1,h17,h18,ht4,ht19,hm,hltd,hs,show decide ((0:Int)<0)=false from rfl,show decide ((0:Int)≥0)=true from rfl,show decide ((0:Int)<9223372036854775808)=true from rfl,show IntKind.i64.wrap 0=0 from rfl,show (0:Int).sign=0 from rfl,decide_true,decide_false,Yl]
     repeat' (first|refine qS ?_ ?_|fail)<;>intro h<;>simp only[h,go_sem,go_sem_proc,Yd,al,h1,h17,h18,ht4,ht19,hm,hltd,hs,show decide ((0:Int)<0)=false from rfl,show decide ((0:Int)≥0)=true from rfl,show decide ((0:Int)<9223372036854775808)=true from rfl,show IntKind.i64.wrap 0=0 from rfl,show (0:Int).sign=0 from rfl,decide_true,decide_false,Yl]
    ·by_cases hr64:u≤9223372036854775808
     ·rw[if_pos (by unfold bZ;omega)]
      have hw:=rI (0-u) (by omega) (by omega)
      have hw2:IntKind.i64.wrap (0-u+18446744073709551616)=z:=by
       simp [IntKind.wrap,IntKind.bits,IntKind.signed];omega
      simp only[go_sem,go_sem_proc,Yd,al,h1,h17,h18,ht4,ht19,hm,hltd,hs,hr64,show decide ((1:Int)<0)=false from rfl,show decide ((1:Int)≥0)=true from rfl,show decide ((-1:Int)<0)=true from rfl,show decide ((-1:Int)≥0)=false from rfl,hw,hw2,decide_true,decide_false,Yl]
      repeat' (first|refine qS ?_ ?_|fail)<;>intro h<;>simp only[h,go_sem,go_sem_proc,Yd,al,h1,h17,h18,ht4,ht19,hm,hltd,hs,hr64,show decide ((1:Int)<0)=false from rfl,show decide ((1:Int)≥0)=true from rfl,show decide ((-1:Int)<0)=true from rfl,show decide ((-1:Int)≥0)=false from rfl,hw,hw2,decide_true,decide_false,Yl]
     ·rw[if_neg (by unfold bZ;omega)]
      simp only[go_sem,go_sem_proc,Yd,al,h1,h17,h18,ht4,ht19,hm,hltd,hs,hr64,show decide ((1:Int)<0)=false from rfl,show decide ((1:Int)≥0)=true from rfl,show decide ((-1:Int)<0)=true from rfl,show decide ((-1:Int)≥0)=false from rfl,decide_true,decide_false,Yl]
      repeat' (first|refine qS ?_ ?_|fail)<;>intro h<;>simp only[h,go_sem,go_sem_proc,Yd,al,h1,h17,h18,ht4,ht19,hm,hltd,hs,hr64,show decide ((1:Int)<0)=false from rfl,show decide ((1:Int)≥0)=true from rfl,show decide ((-1:Int)<0)=true from rfl,show decide ((-1:Int)≥0)=false from rfl,decide_true,decide_false,Yl]
  ·have h4':decide (((dg z.natAbs).length:Int)>4)=true:=decide_eq_true (by omega)
   have hn:¬ bZ z:=by
    intro h;unfold bZ at h;refine h4 (dg_len.2 ?_);omega
   rw[if_neg hn];simp only[go_sem,go_sem_proc,Yd,al,hr,hc,h4',Yl]
   repeat' (first|refine qS ?_ ?_|fail)<;>intro h<;>simp only[h,go_sem,go_sem_proc,Yd,al,hr,hc,h4',Yl]
 ·have hr:aH (s,l)=false:=by simpa using hr
  have hi:p9 (s,l)=(0,false):=by unfold p9;rw[if_neg];rw[hr];simp
  rw[hi];simp only[go_sem,go_sem_proc,Yd,al,hr,hc]
  repeat' (first|refine qS ?_ ?_|fail)<;>intro h<;>simp only[h,go_sem,go_sem_proc,Yd,al,hr,hc]
def mf_frac_Right:MFunc :=
 { n:=35,np:=1,res:=[.t 2],body :=
 (.seq (.ops [
 Zk 1 116001 0,Zb 2 false])
 (.seq (.seq (.ops [
 Zf 5 0 1,Zu 6 2 5,⟨some 7,none,.call aY [(.t 6)]⟩,Zt 8 7,Zv 9 8,⟨some 10,some (9,false),.fad 2 (.t 1)⟩,⟨some 11,some (9,false),.load 2 true (.t 10)⟩,⟨some 12,some (9,false),.call aY [(.t 11)]⟩,⟨some 13,some (9,false),.un .not (.t 12)⟩,Zp 14 9 13,Zv 15 14,⟨some 16,some (15,false),.fad 2 (.t 1)⟩,⟨some 17,some (15,false),.fad 0 (.t 16)⟩,⟨some 18,some (15,false),.load 1 false (.t 17)⟩,⟨some 19,some (15,false),.bin .neq (.t 18) (.c (ZI 1))⟩,Zp 20 15 19])
 (.cond (.t 20)
 (.seq (.ops [
 Zb 2 false])
 .ret)
 .skip))
 (.seq (.ops [
 Zf 22 0 1,Zu 23 2 22,Zf 24 2 1,Zu 25 2 24,⟨some 26,none,.call kJ [(.t 23),(.t 25)]⟩,Zv 21 26,Zx 27 0 21,Zx 28 1 21,⟨some 3,none,.alloc 116003 [(ZI 0),.nil]⟩,Zs 2 3 27,Zv 4 28])
 (.seq (.ops [
 Zv 29 4,Zc 30 .eql 29 0,Zv 31 30,⟨some 32,some (31,true),.load 2 true (.t 3)⟩,⟨some 33,some (31,true),.call nz [(.t 32)]⟩,Zq 34 31 33,Zv 2 34])
 .ret)))) }
def mf_frac_Add:MFunc :=
 { n:=46,np:=2,res:=[.cell 4 4 true,.t 5],body :=
 (.seq (.ops [
 Zk 2 119002 0,Zk 3 119003 1,⟨some 4,none,.alloc 119004 [(ZI 0),.nil,(ZI 0),.nil]⟩,Zi 5 0])
 (.seq (.seq (.ops [
 Zu 10 4 2,⟨some 11,none,.call bb [(.t 10)]⟩,Zt 12 11,Zv 13 12,⟨some 14,some (13,false),.load 4 true (.t 3)⟩,⟨some 15,some (13,false),.call bb [(.t 14)]⟩,⟨some 16,some (13,false),.un .not (.t 15)⟩,Zp 17 13 16])
 (.cond (.t 17)
 (.seq (.ops [
 ⟨some 18,none,.build [(ZI 0),.nil,(ZI 0),.nil] []⟩,Zs 4 4 18,Zi 5 1])
 .ret)
 .skip))
 (.seq (.ops [
 Zf 20 0 2,Zu 21 2 20,Zf 22 2 3,Zu 23 2 22,Zf 24 0 3,Zu 25 2 24,Zf 26 2 2,Zu 27 2 26,⟨some 28,none,.call nW [(.t 21),(.t 23),(.t 25),(.t 27)]⟩,Zv 19 28,Zx 29 0 19,Zx 30 1 19,⟨some 6,none,.alloc 119006 [(ZI 0),.nil]⟩,Zs 2 6 29,Zv 7 30])
 (.seq (.ops [
 Zf 32 2 2,Zu 33 2 32,Zf 34 2 3,Zu 35 2 34,⟨some 36,none,.call dR [(.t 33),(.t 35)]⟩,Zv 31 36,Zx 37 0 31,Zx 38 1 31,⟨some 8,none,.alloc 119008 [(ZI 0),.nil]⟩,Zs 2 8 37,Zv 9 38])
 (.seq (.ops [
 Zu 39 2 6,Zv 40 7,Zu 41 2 8,Zv 42 9,⟨some 43,none,.call dE [(.t 39),(.t 40),(.t 41),(.t 42)]⟩,Zx 44 0 43,Zx 45 1 43,Zs 4 4 44,Zv 5 45])
 .ret))))) }
def mf_frac_Of:MFunc :=
 { n:=13,np:=2,res:=[.cell 4 4 true,.t 5],body :=
 (.seq (.ops [
 ⟨some 4,none,.alloc 130004 [(ZI 0),.nil,(ZI 0),.nil]⟩,Zi 5 0])
 (.seq (.ops [
 Zv 6 0,⟨some 7,none,.call oI [(.t 6)]⟩,Zv 8 1,⟨some 9,none,.call oI [(.t 8)]⟩,⟨some 10,none,.call jU [(.t 7),(.t 9)]⟩,Zx 11 0 10,Zx 12 1 10,Zs 4 4 11,Zv 5 12])
 .ret)) }
def mf_frac_Sub:MFunc :=
 { n:=25,np:=2,res:=[.cell 4 4 true,.t 5],body :=
 (.seq (.ops [
 Zk 2 132002 0,Zk 3 132003 1,⟨some 4,none,.alloc 132004 [(ZI 0),.nil,(ZI 0),.nil]⟩,Zi 5 0])
 (.seq (.seq (.ops [
 Zu 6 4 2,⟨some 7,none,.call bb [(.t 6)]⟩,Zt 8 7,Zv 9 8,⟨some 10,some (9,false),.load 4 true (.t 3)⟩,⟨some 11,some (9,false),.call bb [(.t 10)]⟩,⟨some 12,some (9,false),.un .not (.t 11)⟩,Zp 13 9 12])
 (.cond (.t 13)
 (.seq (.ops [
 ⟨some 14,none,.build [(ZI 0),.nil,(ZI 0),.nil] []⟩,Zs 4 4 14,Zi 5 1])
 .ret)
 .skip))
 (.seq (.opsD [
 Zu 15 4 2,Zf 16 0 3,Zu 17 2 16,⟨some 18,none,.call jq [(.t 17)]⟩,Zf 19 2 3,Zu 20 2 19,⟨some 21,none,.build [(ZI 0),.nil,(ZI 0),.nil] [(0,2,(.t 18)),(2,2,(.t 20))]⟩,⟨some 22,none,.call fx [(.t 15),(.t 21)]⟩,Zx 23 0 22,Zx 24 1 22,Zs 4 4 23,Zv 5 24] [[],[],[],[],[],[],[],[],[],[],[],[]])
 .ret))) }
def mf_frac_Mul:MFunc :=
 { n:=42,np:=2,res:=[.cell 4 4 true,.t 5],body :=
 (.seq (.ops [
 Zk 2 134002 0,Zk 3 134003 1,⟨some 4,none,.alloc 134004 [(ZI 0),.nil,(ZI 0),.nil]⟩,Zi 5 0])
 (.seq (.seq (.ops [
 Zu 10 4 2,⟨some 11,none,.call bb [(.t 10)]⟩,Zt 12 11,Zv 13 12,⟨some 14,some (13,false),.load 4 true (.t 3)⟩,⟨some 15,some (13,false),.call bb [(.t 14)]⟩,⟨some 16,some (13,false),.un .not (.t 15)⟩,Zp 17 13 16])
 (.cond (.t 17)
 (.seq (.ops [
 ⟨some 18,none,.build [(ZI 0),.nil,(ZI 0),.nil] []⟩,Zs 4 4 18,Zi 5 1])
 .ret)
 .skip))
 (.seq (.ops [
 Zf 20 0 2,Zu 21 2 20,Zf 22 0 3,Zu 23 2 22,⟨some 24,none,.call dR [(.t 21),(.t 23)]⟩,Zv 19 24,Zx 25 0 19,Zx 26 1 19,⟨some 6,none,.alloc 134006 [(ZI 0),.nil]⟩,Zs 2 6 25,Zv 7 26])
 (.seq (.ops [
 Zf 28 2 2,Zu 29 2 28,Zf 30 2 3,Zu 31 2 30,⟨some 32,none,.call dR [(.t 29),(.t 31)]⟩,Zv 27 32,Zx 33 0 27,Zx 34 1 27,⟨some 8,none,.alloc 134008 [(ZI 0),.nil]⟩,Zs 2 8 33,Zv 9 34])
 (.seq (.ops [
 Zu 35 2 6,Zv 36 7,Zu 37 2 8,Zv 38 9,⟨some 39,none,.call dE [(.t 35),(.t 36),(.t 37),(.t 38)]⟩,Zx 40 0 39,Zx 41 1 39,Zs 4 4 40,Zv 5 41])
 .ret))))) }
def mf_frac_Compare:MFunc :=
 { n:=78,np:=2,res:=[.t 4],body :=
 (.seq (.ops [
 Zk 2 135002 0,Zk 3 135003 1,Zi 4 0])
 (.seq (.seq (.ops [
 Zu 17 4 2,⟨some 18,none,.call bb [(.t 17)]⟩,Zt 19 18,Zv 20 19,⟨some 21,some (20,false),.load 4 true (.t 3)⟩,⟨some 22,some (20,false),.call bb [(.t 21)]⟩,⟨some 23,some (20,false),.un .not (.t 22)⟩,Zp 24 20 23])
 (.cond (.t 24)
 (.seq (.ops [
 Zi 4 0])
 .ret)
 .skip))
 (.seq (.opsD [
 Zf 25 0 2,Zu 26 2 25,Zf 27 2 2,Zu 28 2 27,Zf 29 0 3,Zu 30 2 29,Zf 31 2 3,Zu 32 2 31,⟨some 5,none,.alloc 135005 [(ZI 0),.nil]⟩,⟨some 6,none,.alloc 135006 [(ZI 0),.nil]⟩,⟨some 7,none,.alloc 135007 [(ZI 0),.nil]⟩,⟨some 8,none,.alloc 135008 [(ZI 0),.nil]⟩,Zs 2 5 26,Zs 2 6 28,Zs 2 7 30,Zs 2 8 32] [[],[],[],[],[],[],[],[],[1,3,5,7],[1,3,5,7,8],[1,3,5,7,8,9],[1,3,5,7,8,9,10],[3,5,7],[5,7],[7],[]])
 (.seq (.ops [
 Zi 9 1])
 (.block 0
 (.loop
 (.seq (.block 1
 (.seq (.ops [
 Zu 36 2 5,Zu 37 2 6,⟨some 38,none,.call iz [(.t 36),(.t 37)]⟩,Zv 35 38,Zx 39 0 35,Zx 40 1 35,Zx 41 2 35,⟨some 10,none,.alloc 135010 [(ZI 0),.nil]⟩,⟨some 11,none,.alloc 135011 [(ZI 0),.nil]⟩,Zs 2 10 39,Zs 2 11 40,Zv 12 41])
 (.seq (.ops [
 Zu 43 2 7,Zu 44 2 8,⟨some 45,none,.call iz [(.t 43),(.t 44)]⟩,Zv 42 45,Zx 46 0 42,Zx 47 1 42,Zx 48 2 42,⟨some 13,none,.alloc 135013 [(ZI 0),.nil]⟩,⟨some 14,none,.alloc 135014 [(ZI 0),.nil]⟩,Zs 2 13 46,Zs 2 14 47,Zv 15 48])
 (.seq (.seq (.ops [
 Zu 49 2 10,Zu 50 2 13,⟨some 51,none,.call kU [(.t 49),(.t 50)]⟩,Zv 16 51])
 (.block 2
 (.seq (.ops [
 Zv 53 16,Zc 54 .neq 53 0,Zv 52 54])
 (.cond (.t 52)
 (.seq (.ops [
 Zv 55 9,Zv 56 16,Zo 57 .mul 55 56,Zv 4 57])
 .ret)
 (.seq (.ops [
 Zf 59 0 11,Zl 60 1 59,Zc 61 .eql 60 0,Zv 62 61,⟨some 63,some (62,false),.fad 0 (.t 14)⟩,⟨some 64,some (62,false),.load 1 false (.t 63)⟩,⟨some 65,some (62,false),.bin .eql (.t 64) (.c (ZI 0))⟩,Zp 66 62 65,Zv 58 66])
 (.cond (.t 58)
 (.seq (.ops [
 Zv 67 9,Zf 68 0 11,Zl 69 1 68,Zf 70 0 14,Zl 71 1 70,Zo 72 .sub 69 71,Zo 73 .mul 67 72,Zv 4 73])
 .ret)
 .skip))))))
 (.opsD [
 Zu 74 2 6,Zu 75 2 11,Zu 76 2 8,Zu 77 2 14,Zs 2 5 74,Zs 2 6 75,Zs 2 7 76,Zs 2 8 77] [[],[],[],[],[1,2,3],[2,3],[3],[]])))))
 (.ops [
 Zv 33 9,⟨some 34,none,.un .neg (.t 33)⟩,Zv 9 34])))))))) }
def mf_frac_one:MFunc :=
 { n:=15,np:=1,res:=[.t 2],body :=
 (.seq (.ops [
 Zk 1 138001 0,Zb 2 false])
 (.seq (.ops [
 Zu 6 2 1,⟨some 7,none,.call pn [(.t 6)]⟩,Zv 5 7,Zx 8 0 5,Zx 9 1 5,Zv 3 8,Zv 4 9])
 (.seq (.ops [
 Zv 10 4,Zv 11 10,⟨some 12,some (11,true),.mv (.t 3)⟩,⟨some 13,some (11,true),.bin .eql (.t 12) (.c (ZI 1))⟩,Zq 14 11 13,Zv 2 14])
 .ret))) }
def mf_frac_sum:MFunc :=
 { n:=38,np:=4,res:=[.cell 8 2 true,.t 9],body :=
 (.seq (.ops [
 Zk 4 139004 0,Zk 5 139005 1,Zk 6 139006 2,Zk 7 139007 3,⟨some 8,none,.alloc 139008 [(ZI 0),.nil]⟩,Zi 9 0])
 (.seq (.ops [
 Zu 14 2 4,Zu 15 2 5,⟨some 16,none,.call dR [(.t 14),(.t 15)]⟩,Zv 13 16,Zx 17 0 13,Zx 18 1 13,⟨some 10,none,.alloc 139010 [(ZI 0),.nil]⟩,Zs 2 10 17,Zv 11 18])
 (.seq (.seq (.ops [
 Zv 19 11,Zc 20 .neq 19 0])
 (.cond (.t 20)
 (.seq (.ops [
 ⟨some 21,none,.build [(ZI 0),.nil] []⟩,Zv 22 11,Zs 2 8 21,Zv 9 22])
 .ret)
 .skip))
 (.seq (.ops [
 Zu 24 2 6,Zu 25 2 7,⟨some 26,none,.call dR [(.t 24),(.t 25)]⟩,Zv 23 26,Zx 27 0 23,Zx 28 1 23,⟨some 12,none,.alloc 139012 [(ZI 0),.nil]⟩,Zs 2 12 27,Zv 11 28])
 (.seq (.seq (.ops [
 Zv 29 11,Zc 30 .neq 29 0])
 (.cond (.t 30)
 (.seq (.ops [
 ⟨some 31,none,.build [(ZI 0),.nil] []⟩,Zv 32 11,Zs 2 8 31,Zv 9 32])
 .ret)
 .skip))
 (.seq (.ops [
 Zu 33 2 10,Zu 34 2 12,⟨some 35,none,.call pE [(.t 33),(.t 34)]⟩,Zx 36 0 35,Zx 37 1 35,Zs 2 8 36,Zv 9 37])
 .ret)))))) }
def mf_frac_quotient:MFunc :=
 { n:=22,np:=4,res:=[.cell 8 4 true,.t 9],body :=
 (.seq (.ops [
 Zk 4 141004 0,Zk 6 141006 2,⟨some 8,none,.alloc 141008 [(ZI 0),.nil,(ZI 0),.nil]⟩,Zi 9 0])
 (.seq (.seq (.ops [
 Zv 10 1,Zc 11 .neq 10 0,Zv 12 11,⟨some 13,some (12,false),.mv (.t 3)⟩,⟨some 14,some (12,false),.bin .neq (.t 13) (.c (ZI 0))⟩,Zp 15 12 14])
 (.cond (.t 15)
 (.seq (.ops [
 ⟨some 16,none,.build [(ZI 0),.nil,(ZI 0),.nil] []⟩,Zs 4 8 16,Zi 9 6])
 .ret)
 .skip))
 (.seq (.ops [
 Zu 17 2 4,Zu 18 2 6,⟨some 19,none,.call jU [(.t 17),(.t 18)]⟩,Zx 20 0 19,Zx 21 1 19,Zs 4 8 20,Zv 9 21])
 .ret))) }
def mf_frac_New:MFunc :=
 { n:=60,np:=2,res:=[.cell 4 4 true,.t 5],body :=
 (.seq (.ops [
 Zk 2 149002 0,Zk 3 149003 1,⟨some 4,none,.alloc 149004 [(ZI 0),.nil,(ZI 0),.nil]⟩,Zi 5 0])
 (.seq (.block 0
 (.seq (.ops [
 Zu 15 2 2,⟨some 16,none,.call aY [(.t 15)]⟩,Zt 17 16,Zv 18 17,⟨some 19,some (18,false),.load 2 true (.t 3)⟩,⟨some 20,some (18,false),.call aY [(.t 19)]⟩,⟨some 21,some (18,false),.un .not (.t 20)⟩,Zp 22 18 21,Zv 14 22])
 (.cond (.t 14)
 (.seq (.ops [
 ⟨some 23,none,.build [(ZI 0),.nil,(ZI 0),.nil] []⟩,Zs 4 4 23,Zi 5 1])
 .ret)
 (.seq (.ops [
 Zf 25 0 3,Zl 26 1 25,Zc 27 .eql 26 0,Zv 24 27])
 (.cond (.t 24)
 (.seq (.ops [
 ⟨some 28,none,.build [(ZI 0),.nil,(ZI 0),.nil] []⟩,Zs 4 4 28,Zi 5 15])
 .ret)
 (.seq (.ops [
 Zf 30 0 3,Zl 31 1 30,Zc 32 .lss 31 0,Zv 29 32])
 (.cond (.t 29)
 (.opsD [
 Zu 33 2 2,⟨some 34,none,.call jq [(.t 33)]⟩,Zu 35 2 3,⟨some 36,none,.call jq [(.t 35)]⟩,Zs 2 2 34,Zs 2 3 36] [[],[],[],[],[],[]])
 .skip)))))))
 (.seq (.ops [
 Zu 38 2 2,Zu 39 2 3,⟨some 40,none,.call kJ [(.t 38),(.t 39)]⟩,Zv 37 40,Zx 41 0 37,Zx 42 1 37,⟨some 6,none,.alloc 149006 [(ZI 0),.nil]⟩,Zs 2 6 41,Zv 7 42])
 (.seq (.ops [
 Zu 44 2 2,Zu 45 2 6,⟨some 46,none,.call iz [(.t 44),(.t 45)]⟩,Zv 43 46,Zx 47 0 43,Zx 48 1 43,Zx 49 2 43,⟨some 8,none,.alloc 149008 [(ZI 0),.nil]⟩,⟨some 9,none,.alloc 149009 [(ZI 0),.nil]⟩,Zs 2 8 47,Zs 2 9 48,Zv 10 49])
 (.seq (.ops [
 Zu 51 2 3,Zu 52 2 6,⟨some 53,none,.call iz [(.t 51),(.t 52)]⟩,Zv 50 53,Zx 54 0 50,Zx 55 1 50,Zx 56 2 50,⟨some 11,none,.alloc 149011 [(ZI 0),.nil]⟩,⟨some 12,none,.alloc 149012 [(ZI 0),.nil]⟩,Zs 2 11 54,Zs 2 12 55,Zv 13 56])
 (.seq (.ops [
 Zu 57 2 8,Zu 58 2 11,⟨some 59,none,.build [(ZI 0),.nil,(ZI 0),.nil] [(0,2,(.t 57)),(2,2,(.t 58))]⟩,Zs 4 4 59,Zi 5 0])
 .ret)))))) }
def mf_frac_Div:MFunc :=
 { n:=49,np:=2,res:=[.cell 4 4 true,.t 5],body :=
 (.seq (.ops [
 Zk 2 169002 0,Zk 3 169003 1,⟨some 4,none,.alloc 169004 [(ZI 0),.nil,(ZI 0),.nil]⟩,Zi 5 0])
 (.seq (.block 0
 (.seq (.ops [
 Zu 11 4 2,⟨some 12,none,.call bb [(.t 11)]⟩,Zt 13 12,Zv 14 13,⟨some 15,some (14,false),.load 4 true (.t 3)⟩,⟨some 16,some (14,false),.call bb [(.t 15)]⟩,⟨some 17,some (14,false),.un .not (.t 16)⟩,Zp 18 14 17,Zv 10 18])
 (.cond (.t 10)
 (.seq (.ops [
 ⟨some 19,none,.build [(ZI 0),.nil,(ZI 0),.nil] []⟩,Zs 4 4 19,Zi 5 1])
 .ret)
 (.seq (.ops [
 Zf 21 0 3,Zf 22 0 21,Zl 23 1 22,Zc 24 .eql 23 0,Zv 20 24])
 (.cond (.t 20)
 (.seq (.ops [
 ⟨some 25,none,.build [(ZI 0),.nil,(ZI 0),.nil] []⟩,Zs 4 4 25,Zi 5 15])
 .ret)
 .skip)))))
 (.seq (.ops [
 Zf 27 0 2,Zu 28 2 27,Zf 29 2 3,Zu 30 2 29,⟨some 31,none,.call dR [(.t 28),(.t 30)]⟩,Zv 26 31,Zx 32 0 26,Zx 33 1 26,⟨some 6,none,.alloc 169006 [(ZI 0),.nil]⟩,Zs 2 6 32,Zv 7 33])
 (.seq (.ops [
 Zf 35 2 2,Zu 36 2 35,Zf 37 0 3,Zu 38 2 37,⟨some 39,none,.call dR [(.t 36),(.t 38)]⟩,Zv 34 39,Zx 40 0 34,Zx 41 1 34,⟨some 8,none,.alloc 169008 [(ZI 0),.nil]⟩,Zs 2 8 40,Zv 9 41])
 (.seq (.ops [
 Zu 42 2 6,Zv 43 7,Zu 44 2 8,Zv 45 9,⟨some 46,none,.call dE [(.t 42),(.t 43),(.t 44),(.t 45)]⟩,Zx 47 0 46,Zx 48 1 46,Zs 4 4 47,Zv 5 48])
 .ret))))) }
abbrev aS:=Raw × Raw
def ad (f:aS):List Data:=[.int .i64 f.1.1,.sl (f.1.2.map aa),.int .i64 f.2.1,.sl (f.2.2.map aa)]
def bD (x:aS × Int):Data:=.tup [.agg (ad x.1),.int .i64 x.2]
def ai (x:Rat):aS:=(aO x.num,aO x.den)
def cv (x:Rat):Prop:=x.num.natAbs<LIM∧x.den<LIM
def bB:aS:=((0,[]),(0,[]))
def be (f:aS):Bool:=aH f.1&&(aH f.2&&(f.2.1==1&&(YH (gU f.1).natAbs (gU f.2).natAbs==1)))
def z9 (f:aS):Rat:=YI (gU f.1) (gU f.2)
theorem la (x:Rat):z9 (ai x)=x:=by
 unfold z9 ai;rw[aQ,aQ,YJ]
theorem qz {x y:Rat} (h:ai x=ai y):x=y:=by rw[←la x,h,la]
theorem den_pos (x:Rat):0<(x.den:Int):=Int.natCast_pos.2 x.den_pos
theorem JU {n:Int} (h:0<n):(aO n).1=1:=Yj h
theorem kQ (f:aS):be f=true↔∃ x,cv x∧f=ai x:=by
 unfold be;simp only[YK,beq_iff_eq]
 constructor
 ·rintro⟨h1,h2,h3,h4⟩
  obtain⟨p,hp,e1⟩:=(bm _).1 h1;obtain⟨q,hq,e2⟩:=(bm _).1 h2;obtain⟨f1,f2⟩:=f;simp only at e1 e2 h3 h4;subst e1 e2;rw[aQ,aQ] at h4
  have hqp:0<q:=by
   rcases cz q with ⟨_,h⟩ | ⟨e,_⟩ | ⟨e,_⟩
   ·exact h
   ·have:q.sign=1:=h3;omega
   ·have:q.sign=1:=h3;omega
  refine⟨⟨p,q.natAbs,by omega,h4⟩,⟨hp,hq⟩,?_⟩
  unfold ai;rw[show ((q.natAbs:Nat):Int)=q by omega]
 ·rintro⟨x,⟨h1,h2⟩,rfl⟩
  have hd:(x.den:Int).natAbs<LIM:=by rw[Yb];exact h2
  refine⟨bI h1,bI hd,JU (den_pos x),?_⟩;unfold ai;rw[aQ,aQ,Yb];exact x.reduced
theorem eP {x:Rat} (h:cv x):be (ai x)=true:=(kQ _).2 ⟨x,h,rfl⟩
theorem tk {x:Rat} (h:cv x):(x.den:Int).natAbs<LIM:=by rw[Yb];exact h.2
theorem eU {z:Int} (h:z.natAbs<LIM):(dg z.natAbs).length≤1000000:=by have:=fB h;omega
def Dd (a:Raw):Bool:=(p9 a).2&&((p9 a).1==1)
theorem H1 {z:Int} (h:z.natAbs<LIM):Dd (aO z)=decide (z=1):=by
 unfold Dd p9;rw[bI h,aQ]
 by_cases hi:bZ z
 ·rw[if_pos ⟨rfl,hi⟩]
  simp only[YL]
  rfl
 ·rw[if_neg fun h=>hi h.2]
  have:z≠1:=by rintro rfl;exact hi (by unfold bZ;omega)
  simp [this]
noncomputable def Dl:List Data→Option PRes:=FF (α:=Int × (List Int)) (fun (s,l)=>([.agg [.int .i64 s,.sl (l.map aa)]]:List Data)) (fun (s,l)=>aF (l.length≤1000000) (.same (.bool (Dd (s,l)))))
theorem C2:∀ a b:Int × (List Int),(fun (s,l)=>([.agg [.int .i64 s,.sl (l.map aa)]]:List Data)) a=(fun (s,l)=>([.agg [.int .i64 s,.sl (l.map aa)]]:List Data)) b→a=b:=by
  rintro⟨s1,l1⟩ ⟨s2,l2⟩ h;simp only[List.cons.injEq,Data.agg.injEq,Data.int.injEq,Data.sl.injEq] at h;exact Yc h.1.1.2 (af aj _ _ h.1.2.1)
@[go_sem] theorem Qn (s:Int) (l:List Int) (hc:l.length≤1000000):Dl [.agg [.int .i64 s,.sl (l.map aa)]]=some (.same (.bool (Dd (s,l)))):=(aV C2 (s,l)).trans (an hc _)
theorem Pr (T:Tab) (p7:T pn=mkE uK) (s:Int) (l:List Int) (hc:l.length≤1000000) :
  wp T mf_frac_one.body (bE mf_frac_one.res (.same (.bool (Dd (s,l))))) ⟨ax [.dat (.agg [.int .i64 s,.sl (l.map aa)])],emp⟩:=by
 refine ap ?_;simp only[mf_frac_one];unfold Dd;rcases h:(p9 (s,l)).2
 ·simp only[go_sem,go_sem_proc,Yd,p7,hc,h]
  repeat' (first|refine qS ?_ ?_|fail)<;>intro h<;>simp only[h,go_sem,go_sem_proc,Yd,p7,hc,h]
 ·simp only[go_sem,go_sem_proc,Yd,p7,hc,h]
  repeat' (first|refine qS ?_ ?_|fail)<;>intro h<;>simp only[h,go_sem,go_sem_proc,Yd,p7,hc,h]
noncomputable def ia:List Data→Option PRes:=FF (α:=Int × (List Int) × Int × (List Int)) (fun (s,l,s2,l2)=>([.agg [.int .i64 s,.sl (l.map aa),.int .i64 s2,.sl (l2.map aa)]]:List Data)) (fun (s,l,s2,l2)=>aF (l.length≤1000000∧l2.length≤1000000) (.same (.bool (be ((s,l),(s2,l2))))))
theorem xD:∀ a b:Int × (List Int) × Int × (List Int),(fun (s,l,s2,l2)=>([.agg [.int .i64 s,.sl (l.map aa),.int .i64 s2,.sl (l2.map aa)]]:List Data)) a=(fun (s,l,s2,l2)=>([.agg [.int .i64 s,.sl (l.map aa),.int .i64 s2,.sl (l2.map aa)]]:List Data)) b→a=b:=by
  rintro⟨s1,l1,s21,l21⟩ ⟨s2,l2,s22,l22⟩ h;simp only[List.cons.injEq,Data.agg.injEq,Data.int.injEq,Data.sl.injEq] at h;exact Yc h.1.1.2 (Yc (af aj _ _ h.1.2.1) (Yc h.1.2.2.1.2 (af aj _ _ h.1.2.2.2.1)))
@[go_sem] theorem Ns (s:Int) (l:List Int) (s2:Int) (l2:List Int) (hc:l.length≤1000000∧l2.length≤1000000):ia [.agg [.int .i64 s,.sl (l.map aa),.int .i64 s2,.sl (l2.map aa)]]=some (.same (.bool (be ((s,l),(s2,l2))))):=(aV xD (s,l,s2,l2)).trans (an hc _)
theorem HN (T:Tab) (al:T aY=mkE en) (oW:T kJ=mkE Ew) (yk:T nz=mkE Dl) (s:Int) (l:List Int) (s2:Int) (l2:List Int) (hc:l.length≤1000000∧l2.length≤1000000) :
  wp T mf_frac_Right.body (bE mf_frac_Right.res (.same (.bool (be ((s,l),(s2,l2)))))) ⟨ax [.dat (.agg [.int .i64 s,.sl (l.map aa),.int .i64 s2,.sl (l2.map aa)])],emp⟩:=by
 refine ap ?_;simp only[mf_frac_Right];obtain⟨hl1,hl2⟩:=hc
 by_cases hr:aH (s,l)=true
 ·by_cases hr2:aH (s2,l2)=true
  ·by_cases hs:s2=1
   ·obtain⟨x,hx,e⟩:=(bm _).1 hr
    obtain⟨y,hy,e2⟩:=(bm _).1 hr2
    have hg:ku (s,l) (s2,l2)=(aO ((YH x.natAbs y.natAbs:Nat):Int),0):=by
     unfold ku;rw[hr,hr2,e,e2,aQ,aQ];rfl
    have hgl:=qy hx hy
    have ho:Dd (aO ((YH x.natAbs y.natAbs:Nat):Int))=(YH x.natAbs y.natAbs==1):=by
     rw[H1 (by rw[Yb];exact hgl)];rw[Bool.eq_iff_iff];simp;omega
    have hv1:gU (s,l)=x:=by rw[e,aQ]
    have hv2:gU (s2,l2)=y:=by rw[e2,aQ]
    have hR:be ((s,l),(s2,l2))=(YH x.natAbs y.natAbs==1):=by
     show (aH (s,l)&&(aH (s2,l2)&&((s2==1)&&(YH (gU (s,l)).natAbs (gU (s2,l2)).natAbs==1))))=_;rw[hr,hr2,hv1,hv2,show (s2==1)=true by simpa using hs]
     simp only[YL]
    have hgl2:((aO ((YH x.natAbs y.natAbs:Nat):Int)).2).length≤1000000:=eU (by rw[Yb];exact hgl);rw[hR,←ho];generalize aO ((YH x.natAbs y.natAbs:Nat):Int)=G at *;obtain⟨g1,g2⟩:=G;have hs':(s2==1)=true:=by simpa using hs
    refine qI ?_
    repeat' (intro h<;>simp only[h,go_sem,go_sem_proc,Yd,al,oW,yk,hr,hr2,hl1,hl2,hs',hg,hgl2,dT,bG,show ((0:Int)==0)=true from rfl]<;>try refine qS ?_ ?_)
   ·have hR:be ((s,l),(s2,l2))=false:=by unfold be;simp [hs]
    have hs':(s2==1)=false:=by simpa using hs
    rw[hR];refine qI ?_
    repeat' (intro h<;>simp only[h,go_sem,go_sem_proc,Yd,al,oW,yk,hr,hr2,hl1,hl2,hs']<;>try refine qS ?_ ?_)
  ·have hr2:aH (s2,l2)=false:=by simpa using hr2
   have hR:be ((s,l),(s2,l2))=false:=by unfold be;simp [hr2]
   rw[hR];refine qI ?_
   repeat' (intro h<;>simp only[h,go_sem,go_sem_proc,Yd,al,oW,yk,hr,hr2,hl1,hl2]<;>try refine qS ?_ ?_)
 ·have hr:aH (s,l)=false:=by simpa using hr
  have hR:be ((s,l),(s2,l2))=false:=by unfold be;simp [hr]
  rw[hR];refine qI ?_
  repeat' (intro h<;>simp only[h,go_sem,go_sem_proc,Yd,al,oW,yk,hr,hl1,hl2]<;>try refine qS ?_ ?_)
def fP (p q:Raw):aS × Int :=
 if (aH p&&aH q)=true then (if gU q=0 then (bB,15) else (ai (YI (gU p) (gU q)),0)) else (bB,1)
theorem iP {p q:Int} (hp:p.natAbs<LIM) (hq:q.natAbs<LIM) (h0:q≠0):fP (aO p) (aO q)=(ai (YI p q),0):=by
 unfold fP;rw[bI hp,bI hq,aQ,aQ,if_pos (by rfl),if_neg h0]
theorem mP {p q:Int} (hq:0<q):(YI p q).num=p.fdiv ((YH p.natAbs q.natAbs:Nat):Int)∧((YI p q).den:Int)=q.fdiv ((YH p.natAbs q.natAbs:Nat):Int):=by
 rw[Rat.num_divInt,Rat.den_divInt,if_neg (by omega),Yj hq,X3];have hg:q.gcd p=YH p.natAbs q.natAbs:=by rw[Int.gcd_comm];rfl
 rw[hg];have h0:(0:Int)≤((YH p.natAbs q.natAbs:Nat):Int):=Int.natCast_nonneg _;rw[YM _ h0,YM _ h0];refine⟨rfl,?_⟩;rw[Int.natCast_ediv]
 congr 1
 omega
theorem uq {p q:Int} (hq:q≠0):0<YH p.natAbs q.natAbs:=Nat.gcd_pos_of_pos_right _ (by omega)
theorem mV {p q:Int} (hp:p.natAbs<LIM) (hq:q.natAbs<LIM):cv (YI p q):=by
 have main:∀ {p q:Int},p.natAbs<LIM→q.natAbs<LIM→0<q→cv (YI p q):=by
  intro p q hp hq h0;obtain⟨h1,h2⟩:=mP (p:=p) h0;have hg:=uq (p:=p) (q:=q) (by omega);refine⟨?_,?_⟩
  ·rw[h1];exact mg hp (by omega)
  ·have:=mg (y:=((YH p.natAbs q.natAbs:Nat):Int)) hq (by omega)
   rw[←h2,Yb] at this;exact this
 rcases YN q 0 with h | h | h
 ·rw[←YO]
  exact main (by omega) (by omega) (by omega)
 ·subst h
  rw[Rat.divInt_zero];unfold cv LIM;exact⟨Nat.pow_pos (by omega),Nat.one_lt_pow (by omega) (by omega)⟩
 ·exact main hp hq h
noncomputable def yJ:List Data→Option PRes:=FF (α:=Int × (List Int) × Int × (List Int)) (fun (s,l,s2,l2)=>([.agg [.int .i64 s,.sl (l.map aa)],.agg [.int .i64 s2,.sl (l2.map aa)]]:List Data)) (fun (s,l,s2,l2)=>aF (l.length≤1000000∧l2.length≤1000000) (.same (bD (fP (s,l) (s2,l2)))))
theorem Dp:∀ a b:Int × (List Int) × Int × (List Int),(fun (s,l,s2,l2)=>([.agg [.int .i64 s,.sl (l.map aa)],.agg [.int .i64 s2,.sl (l2.map aa)]]:List Data)) a=(fun (s,l,s2,l2)=>([.agg [.int .i64 s,.sl (l.map aa)],.agg [.int .i64 s2,.sl (l2.map aa)]]:List Data)) b→a=b:=by
  rintro⟨s1,l1,s21,l21⟩ ⟨s2,l2,s22,l22⟩ h;simp only[List.cons.injEq,Data.agg.injEq,Data.int.injEq,Data.sl.injEq] at h;exact Yc h.1.1.2 (Yc (af aj _ _ h.1.2.1) (Yc h.2.1.1.2 (af aj _ _ h.2.1.2.1)))
@[go_sem] theorem Qm (s:Int) (l:List Int) (s2:Int) (l2:List Int) (hc:l.length≤1000000∧l2.length≤1000000):yJ [.agg [.int .i64 s,.sl (l.map aa)],.agg [.int .i64 s2,.sl (l2.map aa)]]=some (.same (bD (fP (s,l) (s2,l2)))):=(aV Dp (s,l,s2,l2)).trans (an hc _)
theorem O7 (T:Tab) (al:T aY=mkE en) (p6:T jq=mkE DT) (oW:T kJ=mkE Ew) (kj:T iz=mkE Ef) (s:Int) (l:List Int) (s2:Int) (l2:List Int) (hc:l.length≤1000000∧l2.length≤1000000) :
  wp T mf_frac_New.body (bE mf_frac_New.res (.same (bD (fP (s,l) (s2,l2))))) ⟨ax [.dat (.agg [.int .i64 s,.sl (l.map aa)]),.dat (.agg [.int .i64 s2,.sl (l2.map aa)])],emp⟩:=by
 refine ap ?_;simp only[mf_frac_New];obtain⟨hl1,hl2⟩:=hc
 by_cases hr:aH (s,l)=true
 ·by_cases hr2:aH (s2,l2)=true
  ·obtain⟨x,hx,e⟩:=(bm _).1 hr
   obtain⟨y,hy,e2⟩:=(bm _).1 hr2
   by_cases h0:y=0
   ·have hm:fP (s,l) (s2,l2)=(bB,15):=by
     unfold fP;rw[hr,hr2,e2,aQ,if_pos (by rfl),if_pos h0]
    rw[hm]
    cases e
    cases e2;have hs:(y.sign==0)=true:=by rw[h0];rfl
    refine qI ?_
    repeat' (intro h<;>simp only[h,go_sem,go_sem_proc,Yd,al,p6,oW,kj,hr,hr2,hl1,hl2,hs,bD,ad,bB,Ye]<;>try refine qS ?_ ?_)
   ·have main:∀ p q:Int,p.natAbs<LIM→q.natAbs<LIM→0<q→∃ g:Raw,ku (aO p) (aO q)=(g,0)∧g.2.length≤1000000∧ji (aO p) g=(aO (YI p q).num,aO (p.fmod ((YH p.natAbs q.natAbs:Nat):Int)),0)∧ji (aO q) g=(aO (YI p q).den,aO (q.fmod ((YH p.natAbs q.natAbs:Nat):Int)),0):=by
     intro p q hp hq hq0;have hgl:=qy hp hq;have hgl':((YH p.natAbs q.natAbs:Nat):Int).natAbs<LIM:=by rw[Yb];exact hgl
     have hg0:=uq (p:=p) (q:=q) (by omega);obtain⟨h1,h2⟩:=mP (p:=p) hq0;refine⟨aO ((YH p.natAbs q.natAbs:Nat):Int),?_,eU hgl',?_,?_⟩
     ·unfold ku;rw[bI hp,bI hq,aQ,aQ];rfl
     ·rw[kL hp hgl' (by omega),h1]
     ·rw[kL hq hgl' (by omega),h2]
    have hs0:(y.sign==0)=false:=by simpa using h0
    rcases Int.lt_or_gt_of_ne h0 with hneg | hpos
    ·have hs1:decide (y.sign<0)=true:=by rw[Ys hneg];rfl
     obtain⟨⟨g1,g2⟩,hg,hgl,hd1,hd2⟩:=main (-x) (-y) (by omega) (by omega) (by omega)
     have hm:fP (s,l) (s2,l2)=(ai (YI (-x) (-y)),0):=by
      rw[e,e2,iP hx hy h0,YO]
     rw[hm];have hn1:i9 (s,l)=aO (-x):=by unfold i9;rw[if_pos hr,e,aQ]
     have hn2:i9 (s2,l2)=aO (-y):=by unfold i9;rw[if_pos hr2,e2,aQ]
     have hy1:s2=y.sign:=congrArg YP e2;have hl3:(aO (-x)).2.length≤1000000:=eU (by omega);have hl4:(aO (-y)).2.length≤1000000:=eU (by omega);clear e e2;unfold ai;generalize aO (-x)=X at *;generalize aO (-y)=Y at *;obtain⟨x1,x2⟩:=X;obtain⟨y1,y2⟩:=Y;rw[←hy1] at hs0 hs1;refine qI ?_
     repeat' (intro h<;>simp only[h,go_sem,go_sem_proc,Yd,al,p6,oW,kj,hr,hr2,hl1,hl2,hs0,hs1,hn1,hn2,hl3,hl4,hg,hgl,hd1,hd2,bD,ad,dT,dc,bG]<;>try refine qS ?_ ?_)
    ·have hs1:decide (y.sign<0)=false:=by rw[Yj hpos];rfl
     obtain⟨⟨g1,g2⟩,hg,hgl,hd1,hd2⟩:=main x y hx hy hpos
     have hm:fP (s,l) (s2,l2)=(ai (YI x y),0):=by
      rw[e,e2,iP hx hy h0]
     rw[hm];have hy1:s2=y.sign:=congrArg YP e2;rw[←e] at hg hd1;rw[←e2] at hg hd2;rw[←hy1] at hs0 hs1;unfold ai;refine qI ?_
     repeat' (intro h<;>simp only[h,go_sem,go_sem_proc,Yd,al,p6,oW,kj,hr,hr2,hl1,hl2,hs0,hs1,hg,hgl,hd1,hd2,bD,ad,dT,dc,bG]<;>try refine qS ?_ ?_)
  ·have hr2:aH (s2,l2)=false:=by simpa using hr2
   have hm:fP (s,l) (s2,l2)=(bB,1):=by unfold fP;rw[hr2,Yn];rfl
   rw[hm];refine qI ?_
   repeat' (intro h<;>simp only[h,go_sem,go_sem_proc,Yd,al,p6,oW,kj,hr,hr2,hl1,hl2,bD,ad,bB,Ye]<;>try refine qS ?_ ?_)
 ·have hr:aH (s,l)=false:=by simpa using hr
  have hm:fP (s,l) (s2,l2)=(bB,1):=by unfold fP;rw[hr,Yo];rfl
  rw[hm];refine qI ?_
  repeat' (intro h<;>simp only[h,go_sem,go_sem_proc,Yd,al,p6,oW,kj,hr,hl1,hl2,bD,ad,bB,Ye]<;>try refine qS ?_ ?_)
noncomputable def tN:List Data→Option PRes:=FF (α:=Int × Int) (fun (p,q)=>([.int .i64 p,.int .i64 q]:List Data)) (fun (p,q)=>aF (bZ p∧bZ q) (.same (bD (fP (aO p) (aO q)))))
theorem Gg:∀ a b:Int × Int,(fun (p,q)=>([.int .i64 p,.int .i64 q]:List Data)) a=(fun (p,q)=>([.int .i64 p,.int .i64 q]:List Data)) b→a=b:=by
  rintro⟨p1,q1⟩ ⟨p2,q2⟩ h;simp only[List.cons.injEq,Data.int.injEq,Data.agg.injEq,Data.sl.injEq,Data.bool.injEq,Data.str.injEq,Data.ptr.injEq,Data.tup.injEq,Prod.mk.injEq,true_and,and_true] at h ⊢
  first | exact h | simpa [Yp,and_assoc] using h | grind
@[go_sem] theorem AC (p:Int) (q:Int) (hc:bZ p∧bZ q):tN [.int .i64 p,.int .i64 q]=some (.same (bD (fP (aO p) (aO q)))):=(aV Gg (p,q)).trans (an hc _)
theorem Qz (T:Tab) (MP:T oI=mkE y8) (ti:T jU=mkE yJ) (p:Int) (q:Int) (hc:bZ p∧bZ q) :
  wp T mf_frac_Of.body (bE mf_frac_Of.res (.same (bD (fP (aO p) (aO q))))) ⟨ax [.dat (.int .i64 p),.dat (.int .i64 q)],emp⟩:=by
 refine ap ?_;simp only[mf_frac_Of];obtain⟨h1,h2⟩:=hc;have l1:(aO p).2.length≤1000000:=eU (jC h1);have l2:(aO q).2.length≤1000000:=eU (jC h2);generalize hP:aO p=P at *;generalize hQ:aO q=Q at *;obtain⟨x1,x2⟩:=P;obtain⟨y1,y2⟩:=Q;refine qI ?_
 repeat' (intro h<;>simp only[h,go_sem,go_sem_proc,Yd,MP,ti,h1,h2,hP,hQ,l1,l2,bG,bD,ad]<;>try refine qS ?_ ?_)
def uF (a b c d:Raw):Raw × Int :=
 if ((gz a b).2==0)=true then (if ((gz c d).2==0)=true then pZ (gz a b).1 (gz c d).1 else ((0,[]),(gz c d).2)) else ((0,[]),(gz a b).2)
theorem wD (z:Int):(lv z).1.2.length≤1000000:=by
 unfold lv
 split
 ·exact eU (by assumption)
 ·simp
theorem kH (a b:Raw):(gz a b).1.2.length≤1000000:=by
 unfold gz
 split
 ·exact wD _
 ·simp
theorem Ig (a b:Raw):(pZ a b).1.2.length≤1000000:=by
 unfold pZ
 split
 ·exact wD _
 ·simp
theorem HL (a b c d:Raw):(uF a b c d).1.2.length≤1000000:=by
 unfold uF
 split
 ·split
  ·exact Ig _ _
  ·simp
 ·simp
noncomputable def Cm:List Data→Option PRes:=FF (α:=Int × (List Int) × Int × (List Int) × Int × (List Int) × Int × (List Int)) (fun (s,l,s2,l2,s3,l3,s4,l4)=>([.agg [.int .i64 s,.sl (l.map aa)],.agg [.int .i64 s2,.sl (l2.map aa)],.agg [.int .i64 s3,.sl (l3.map aa)],.agg [.int .i64 s4,.sl (l4.map aa)]]:List Data)) (fun (s,l,s2,l2,s3,l3,s4,l4)=>aF (l.length≤1000000∧l2.length≤1000000∧l3.length≤1000000∧l4.length≤1000000) (.same (dT (uF (s,l) (s2,l2) (s3,l3) (s4,l4)))))
theorem CL:∀ a b:Int × (List Int) × Int × (List Int) × Int × (List Int) × Int × (List Int),(fun (s,l,s2,l2,s3,l3,s4,l4)=>([.agg [.int .i64 s,.sl (l.map aa)],.agg [.int .i64 s2,.sl (l2.map aa)],.agg [.int .i64 s3,.sl (l3.map aa)],.agg [.int .i64 s4,.sl (l4.map aa)]]:List Data)) a=(fun (s,l,s2,l2,s3,l3,s4,l4)=>([.agg [.int .i64 s,.sl (l.map aa)],.agg [.int .i64 s2,.sl (l2.map aa)],.agg [.int .i64 s3,.sl (l3.map aa)],.agg [.int .i64 s4,.sl (l4.map aa)]]:List Data)) b→a=b:=by
  rintro⟨s1,l1,s21,l21,s31,l31,s41,l41⟩ ⟨s2,l2,s22,l22,s32,l32,s42,l42⟩ h;simp only[List.cons.injEq,Data.agg.injEq,Data.int.injEq,Data.sl.injEq] at h;exact Yc h.1.1.2 (Yc (af aj _ _ h.1.2.1) (Yc h.2.1.1.2 (Yc (af aj _ _ h.2.1.2.1) (Yc h.2.2.1.1.2 (Yc (af aj _ _ h.2.2.1.2.1) (Yc h.2.2.2.1.1.2 (af aj _ _ h.2.2.2.1.2.1)))))))
@[go_sem] theorem PC (s:Int) (l:List Int) (s2:Int) (l2:List Int) (s3:Int) (l3:List Int) (s4:Int) (l4:List Int) (hc:l.length≤1000000∧l2.length≤1000000∧l3.length≤1000000∧l4.length≤1000000):Cm [.agg [.int .i64 s,.sl (l.map aa)],.agg [.int .i64 s2,.sl (l2.map aa)],.agg [.int .i64 s3,.sl (l3.map aa)],.agg [.int .i64 s4,.sl (l4.map aa)]]=some (.same (dT (uF (s,l) (s2,l2) (s3,l3) (s4,l4)))):=(aV CL (s,l,s2,l2,s3,l3,s4,l4)).trans (an hc _)
theorem N0 (T:Tab) (kf:T dR=mkE wm) (Im:T pE=mkE JE) (s:Int) (l:List Int) (s2:Int) (l2:List Int) (s3:Int) (l3:List Int) (s4:Int) (l4:List Int) (hc:l.length≤1000000∧l2.length≤1000000∧l3.length≤1000000∧l4.length≤1000000) :
  wp T mf_frac_sum.body (bE mf_frac_sum.res (.same (dT (uF (s,l) (s2,l2) (s3,l3) (s4,l4))))) ⟨ax [.dat (.agg [.int .i64 s,.sl (l.map aa)]),.dat (.agg [.int .i64 s2,.sl (l2.map aa)]),.dat (.agg [.int .i64 s3,.sl (l3.map aa)]),.dat (.agg [.int .i64 s4,.sl (l4.map aa)])],emp⟩:=by
 refine ap ?_;simp only[mf_frac_sum];obtain⟨hl1,hl2,hl3,hl4⟩:=hc;have m1:=kH (s,l) (s2,l2);have m2:=kH (s3,l3) (s4,l4);unfold uF;generalize hM1:gz (s,l) (s2,l2)=M1 at *;generalize hM2:gz (s3,l3) (s4,l4)=M2 at *;obtain⟨⟨a1,a2⟩,e1⟩:=M1;obtain⟨⟨b1,b2⟩,e2⟩:=M2;rcases h1:(e1==0)
 ·refine qI ?_
  repeat' (intro h<;>simp only[h,go_sem,go_sem_proc,Yd,kf,Im,hl1,hl2,hl3,hl4,hM1,h1,m1,m2,dT,bG,Ye]<;>try refine qS ?_ ?_)
 ·have z1:e1=0:=by simpa using h1
  subst z1;rcases h2:(e2==0)
  ·refine qI ?_
   repeat' (intro h<;>simp only[h,go_sem,go_sem_proc,Yd,kf,Im,hl1,hl2,hl3,hl4,hM1,hM2,h1,h2,m1,m2,dT,bG,Ye]<;>try refine qS ?_ ?_)
  ·have z2:e2=0:=by simpa using h2
   subst z2;refine qI ?_
   repeat' (intro h<;>simp only[h,go_sem,go_sem_proc,Yd,kf,Im,hl1,hl2,hl3,hl4,hM1,hM2,h1,m1,m2,dT,bG,Ye]<;>try refine qS ?_ ?_)
def nr (p:Raw × Int) (q:Raw × Int):aS × Int:=if (p.2==0)=true then (if (q.2==0)=true then fP p.1 q.1 else (bB,6)) else (bB,6)
noncomputable def qX:List Data→Option PRes:=FF (α:=Int × (List Int) × Int × Int × (List Int) × Int) (fun (s,l,e,s2,l2,e2)=>([.agg [.int .i64 s,.sl (l.map aa)],.int .i64 e,.agg [.int .i64 s2,.sl (l2.map aa)],.int .i64 e2]:List Data)) (fun (s,l,e,s2,l2,e2)=>aF (l.length≤1000000∧l2.length≤1000000) (.same (bD (nr ((s,l),e) ((s2,l2),e2)))))
theorem AG:∀ a b:Int × (List Int) × Int × Int × (List Int) × Int,(fun (s,l,e,s2,l2,e2)=>([.agg [.int .i64 s,.sl (l.map aa)],.int .i64 e,.agg [.int .i64 s2,.sl (l2.map aa)],.int .i64 e2]:List Data)) a=(fun (s,l,e,s2,l2,e2)=>([.agg [.int .i64 s,.sl (l.map aa)],.int .i64 e,.agg [.int .i64 s2,.sl (l2.map aa)],.int .i64 e2]:List Data)) b→a=b:=by
  rintro⟨s1,l1,e1,s21,l21,e21⟩ ⟨s2,l2,e2,s22,l22,e22⟩ h;simp only[List.cons.injEq,Data.agg.injEq,Data.int.injEq,Data.sl.injEq] at h;exact Yc h.1.1.2 (Yc (af aj _ _ h.1.2.1) (Yc h.2.1.2 (Yc h.2.2.1.1.2 (Yc (af aj _ _ h.2.2.1.2.1) h.2.2.2.1.2))))
@[go_sem] theorem N3 (s:Int) (l:List Int) (e:Int) (s2:Int) (l2:List Int) (e2:Int) (hc:l.length≤1000000∧l2.length≤1000000):qX [.agg [.int .i64 s,.sl (l.map aa)],.int .i64 e,.agg [.int .i64 s2,.sl (l2.map aa)],.int .i64 e2]=some (.same (bD (nr ((s,l),e) ((s2,l2),e2)))):=(aV AG (s,l,e,s2,l2,e2)).trans (an hc _)
theorem K2 (T:Tab) (ti:T jU=mkE yJ) (s:Int) (l:List Int) (e:Int) (s2:Int) (l2:List Int) (e2:Int) (hc:l.length≤1000000∧l2.length≤1000000) :
  wp T mf_frac_quotient.body (bE mf_frac_quotient.res (.same (bD (nr ((s,l),e) ((s2,l2),e2))))) ⟨ax [.dat (.agg [.int .i64 s,.sl (l.map aa)]),.dat (.int .i64 e),.dat (.agg [.int .i64 s2,.sl (l2.map aa)]),.dat (.int .i64 e2)],emp⟩:=by
 refine ap ?_;simp only[mf_frac_quotient];obtain⟨hl1,hl2⟩:=hc;unfold nr;rcases h1:(e==0)
 ·refine qI ?_
  repeat' (intro h<;>simp only[h,go_sem,go_sem_proc,Yd,ti,hl1,hl2,h1,bD,ad,bB,Ye]<;>try refine qS ?_ ?_)
 ·have z1:e=0:=by simpa using h1
  subst z1;rcases h2:(e2==0)
  ·refine qI ?_
   repeat' (intro h<;>simp only[h,go_sem,go_sem_proc,Yd,ti,hl1,hl2,h1,h2,bD,ad,bB,Ye]<;>try refine qS ?_ ?_)
  ·have z2:e2=0:=by simpa using h2
   subst z2;refine qI ?_
   repeat' (intro h<;>simp only[h,go_sem,go_sem_proc,Yd,ti,hl1,hl2,h1,bD,ad,bB,Ye]<;>try refine qS ?_ ?_)
def uQ (a b:aS):aS × Int:=if be a=true then (if be b=true then nr (uF a.1 b.2 b.1 a.2) (gz a.2 b.2) else (bB,1)) else (bB,1)
def nu (a b:aS):aS × Int:=if be a=true then (if be b=true then uQ a (i9 b.1,b.2) else (bB,1)) else (bB,1)
def l6 (a b:aS):aS × Int:=if be a=true then (if be b=true then nr (gz a.1 b.1) (gz a.2 b.2) else (bB,1)) else (bB,1)
def iZ (a b:aS):aS × Int:=if be a=true then (if be b=true then (if (b.1.1==0)=true then (bB,15) else nr (gz a.1 b.2) (gz a.2 b.1)) else (bB,1)) else (bB,1)
theorem HT (a:Raw) (h:a.2.length≤1000000):(i9 a).2.length≤1000000:=by
 unfold i9
 split
 ·rename_i hr
  obtain⟨z,hz,e⟩:=(bm _).1 hr;rw[e,aQ];exact eU (by omega)
 ·simp
noncomputable def pg:List Data→Option PRes:=FF (α:=Int × (List Int) × Int × (List Int) × Int × (List Int) × Int × (List Int)) (fun (s,l,s2,l2,s3,l3,s4,l4)=>([.agg [.int .i64 s,.sl (l.map aa),.int .i64 s2,.sl (l2.map aa)],.agg [.int .i64 s3,.sl (l3.map aa),.int .i64 s4,.sl (l4.map aa)]]:List Data)) (fun (s,l,s2,l2,s3,l3,s4,l4)=>aF (l.length≤1000000∧l2.length≤1000000∧l3.length≤1000000∧l4.length≤1000000) (.same (bD (uQ ((s,l),(s2,l2)) ((s3,l3),(s4,l4))))))
theorem Cd:∀ a b:Int × (List Int) × Int × (List Int) × Int × (List Int) × Int × (List Int),(fun (s,l,s2,l2,s3,l3,s4,l4)=>([.agg [.int .i64 s,.sl (l.map aa),.int .i64 s2,.sl (l2.map aa)],.agg [.int .i64 s3,.sl (l3.map aa),.int .i64 s4,.sl (l4.map aa)]]:List Data)) a=(fun (s,l,s2,l2,s3,l3,s4,l4)=>([.agg [.int .i64 s,.sl (l.map aa),.int .i64 s2,.sl (l2.map aa)],.agg [.int .i64 s3,.sl (l3.map aa),.int .i64 s4,.sl (l4.map aa)]]:List Data)) b→a=b:=by
  rintro⟨s1,l1,s21,l21,s31,l31,s41,l41⟩ ⟨s2,l2,s22,l22,s32,l32,s42,l42⟩ h;simp only[List.cons.injEq,Data.agg.injEq,Data.int.injEq,Data.sl.injEq] at h;exact Yc h.1.1.2 (Yc (af aj _ _ h.1.2.1) (Yc h.1.2.2.1.2 (Yc (af aj _ _ h.1.2.2.2.1) (Yc h.2.1.1.2 (Yc (af aj _ _ h.2.1.2.1) (Yc h.2.1.2.2.1.2 (af aj _ _ h.2.1.2.2.2.1)))))))
@[go_sem] theorem GI (s:Int) (l:List Int) (s2:Int) (l2:List Int) (s3:Int) (l3:List Int) (s4:Int) (l4:List Int) (hc:l.length≤1000000∧l2.length≤1000000∧l3.length≤1000000∧l4.length≤1000000):pg [.agg [.int .i64 s,.sl (l.map aa),.int .i64 s2,.sl (l2.map aa)],.agg [.int .i64 s3,.sl (l3.map aa),.int .i64 s4,.sl (l4.map aa)]]=some (.same (bD (uQ ((s,l),(s2,l2)) ((s3,l3),(s4,l4))))):=(aV Cd (s,l,s2,l2,s3,l3,s4,l4)).trans (an hc _)
theorem O8 (T:Tab) (aZ:T bb=mkE ia) (CZ:T nW=mkE Cm) (kf:T dR=mkE wm) (ip:T dE=mkE qX) (s:Int) (l:List Int) (s2:Int) (l2:List Int) (s3:Int) (l3:List Int) (s4:Int) (l4:List Int) (hc:l.length≤1000000∧l2.length≤1000000∧l3.length≤1000000∧l4.length≤1000000) :
  wp T mf_frac_Add.body (bE mf_frac_Add.res (.same (bD (uQ ((s,l),(s2,l2)) ((s3,l3),(s4,l4)))))) ⟨ax [.dat (.agg [.int .i64 s,.sl (l.map aa),.int .i64 s2,.sl (l2.map aa)]),.dat (.agg [.int .i64 s3,.sl (l3.map aa),.int .i64 s4,.sl (l4.map aa)])],emp⟩:=by
 refine ap ?_;simp only[mf_frac_Add];obtain⟨hl1,hl2,hl3,hl4⟩:=hc;unfold uQ
 by_cases hr:be ((s,l),(s2,l2))=true
 ·by_cases hr2:be ((s3,l3),(s4,l4))=true
  ·have m1:=HL (s,l) (s4,l4) (s3,l3) (s2,l2)
   have m2:=kH (s2,l2) (s4,l4);rw[if_pos hr,if_pos hr2];dsimp only;generalize hM1:uF (s,l) (s4,l4) (s3,l3) (s2,l2)=M1 at *;generalize hM2:gz (s2,l2) (s4,l4)=M2 at *;obtain⟨⟨a1,a2⟩,e1⟩:=M1;obtain⟨⟨b1,b2⟩,e2⟩:=M2;refine qI ?_
   repeat' (intro h<;>simp only[h,go_sem,go_sem_proc,Yd,aZ,CZ,kf,ip,hl1,hl2,hl3,hl4,hr,hr2,hM1,hM2,m1,m2,dT,bG,bD,ad]<;>try refine qS ?_ ?_)
  ·have hr2:be ((s3,l3),(s4,l4))=false:=by simpa using hr2
   rw[if_pos hr,if_neg (by simp [hr2])];refine qI ?_
   repeat' (intro h<;>simp only[h,go_sem,go_sem_proc,Yd,aZ,CZ,kf,ip,hl1,hl2,hl3,hl4,hr,hr2,bD,ad,bB,Ye]<;>try refine qS ?_ ?_)
 ·have hr:be ((s,l),(s2,l2))=false:=by simpa using hr
  rw[if_neg (by simp [hr])];refine qI ?_
  repeat' (intro h<;>simp only[h,go_sem,go_sem_proc,Yd,aZ,CZ,kf,ip,hl1,hl2,hl3,hl4,hr,bD,ad,bB,Ye]<;>try refine qS ?_ ?_)
noncomputable def lF:List Data→Option PRes:=FF (α:=Int × (List Int) × Int × (List Int) × Int × (List Int) × Int × (List Int)) (fun (s,l,s2,l2,s3,l3,s4,l4)=>([.agg [.int .i64 s,.sl (l.map aa),.int .i64 s2,.sl (l2.map aa)],.agg [.int .i64 s3,.sl (l3.map aa),.int .i64 s4,.sl (l4.map aa)]]:List Data)) (fun (s,l,s2,l2,s3,l3,s4,l4)=>aF (l.length≤1000000∧l2.length≤1000000∧l3.length≤1000000∧l4.length≤1000000) (.same (bD (nu ((s,l),(s2,l2)) ((s3,l3),(s4,l4))))))
theorem Cv:∀ a b:Int × (List Int) × Int × (List Int) × Int × (List Int) × Int × (List Int),(fun (s,l,s2,l2,s3,l3,s4,l4)=>([.agg [.int .i64 s,.sl (l.map aa),.int .i64 s2,.sl (l2.map aa)],.agg [.int .i64 s3,.sl (l3.map aa),.int .i64 s4,.sl (l4.map aa)]]:List Data)) a=(fun (s,l,s2,l2,s3,l3,s4,l4)=>([.agg [.int .i64 s,.sl (l.map aa),.int .i64 s2,.sl (l2.map aa)],.agg [.int .i64 s3,.sl (l3.map aa),.int .i64 s4,.sl (l4.map aa)]]:List Data)) b→a=b:=by
  rintro⟨s1,l1,s21,l21,s31,l31,s41,l41⟩ ⟨s2,l2,s22,l22,s32,l32,s42,l42⟩ h;simp only[List.cons.injEq,Data.agg.injEq,Data.int.injEq,Data.sl.injEq] at h;exact Yc h.1.1.2 (Yc (af aj _ _ h.1.2.1) (Yc h.1.2.2.1.2 (Yc (af aj _ _ h.1.2.2.2.1) (Yc h.2.1.1.2 (Yc (af aj _ _ h.2.1.2.1) (Yc h.2.1.2.2.1.2 (af aj _ _ h.2.1.2.2.2.1)))))))
@[go_sem] theorem Fo (s:Int) (l:List Int) (s2:Int) (l2:List Int) (s3:Int) (l3:List Int) (s4:Int) (l4:List Int) (hc:l.length≤1000000∧l2.length≤1000000∧l3.length≤1000000∧l4.length≤1000000):lF [.agg [.int .i64 s,.sl (l.map aa),.int .i64 s2,.sl (l2.map aa)],.agg [.int .i64 s3,.sl (l3.map aa),.int .i64 s4,.sl (l4.map aa)]]=some (.same (bD (nu ((s,l),(s2,l2)) ((s3,l3),(s4,l4))))):=(aV Cv (s,l,s2,l2,s3,l3,s4,l4)).trans (an hc _)
theorem OW (T:Tab) (aZ:T bb=mkE ia) (p6:T jq=mkE DT) (lQ:T fx=mkE pg) (s:Int) (l:List Int) (s2:Int) (l2:List Int) (s3:Int) (l3:List Int) (s4:Int) (l4:List Int) (hc:l.length≤1000000∧l2.length≤1000000∧l3.length≤1000000∧l4.length≤1000000) :
  wp T mf_frac_Sub.body (bE mf_frac_Sub.res (.same (bD (nu ((s,l),(s2,l2)) ((s3,l3),(s4,l4)))))) ⟨ax [.dat (.agg [.int .i64 s,.sl (l.map aa),.int .i64 s2,.sl (l2.map aa)]),.dat (.agg [.int .i64 s3,.sl (l3.map aa),.int .i64 s4,.sl (l4.map aa)])],emp⟩:=by
 refine ap ?_;simp only[mf_frac_Sub];obtain⟨hl1,hl2,hl3,hl4⟩:=hc;unfold nu
 by_cases hr:be ((s,l),(s2,l2))=true
 ·by_cases hr2:be ((s3,l3),(s4,l4))=true
  ·have m1:=HT (s3,l3) hl3
   rw[if_pos hr,if_pos hr2];dsimp only;generalize hM1:i9 (s3,l3)=M1 at *;obtain⟨a1,a2⟩:=M1;refine qI ?_
   repeat' (intro h<;>simp only[h,go_sem,go_sem_proc,Yd,aZ,p6,lQ,hl1,hl2,hl3,hl4,hr,hr2,hM1,m1,dT,bG,bD,ad]<;>try refine qS ?_ ?_)
  ·have hr2:be ((s3,l3),(s4,l4))=false:=by simpa using hr2
   rw[if_pos hr,if_neg (by simp [hr2])];refine qI ?_
   repeat' (intro h<;>simp only[h,go_sem,go_sem_proc,Yd,aZ,p6,lQ,hl1,hl2,hl3,hl4,hr,hr2,bD,ad,bB,Ye]<;>try refine qS ?_ ?_)
 ·have hr:be ((s,l),(s2,l2))=false:=by simpa using hr
  rw[if_neg (by simp [hr])];refine qI ?_
  repeat' (intro h<;>simp only[h,go_sem,go_sem_proc,Yd,aZ,p6,lQ,hl1,hl2,hl3,hl4,hr,bD,ad,bB,Ye]<;>try refine qS ?_ ?_)
noncomputable def lH:List Data→Option PRes:=FF (α:=Int × (List Int) × Int × (List Int) × Int × (List Int) × Int × (List Int)) (fun (s,l,s2,l2,s3,l3,s4,l4)=>([.agg [.int .i64 s,.sl (l.map aa),.int .i64 s2,.sl (l2.map aa)],.agg [.int .i64 s3,.sl (l3.map aa),.int .i64 s4,.sl (l4.map aa)]]:List Data)) (fun (s,l,s2,l2,s3,l3,s4,l4)=>aF (l.length≤1000000∧l2.length≤1000000∧l3.length≤1000000∧l4.length≤1000000) (.same (bD (l6 ((s,l),(s2,l2)) ((s3,l3),(s4,l4))))))
theorem Ch:∀ a b:Int × (List Int) × Int × (List Int) × Int × (List Int) × Int × (List Int),(fun (s,l,s2,l2,s3,l3,s4,l4)=>([.agg [.int .i64 s,.sl (l.map aa),.int .i64 s2,.sl (l2.map aa)],.agg [.int .i64 s3,.sl (l3.map aa),.int .i64 s4,.sl (l4.map aa)]]:List Data)) a=(fun (s,l,s2,l2,s3,l3,s4,l4)=>([.agg [.int .i64 s,.sl (l.map aa),.int .i64 s2,.sl (l2.map aa)],.agg [.int .i64 s3,.sl (l3.map aa),.int .i64 s4,.sl (l4.map aa)]]:List Data)) b→a=b:=by
  rintro⟨s1,l1,s21,l21,s31,l31,s41,l41⟩ ⟨s2,l2,s22,l22,s32,l32,s42,l42⟩ h;simp only[List.cons.injEq,Data.agg.injEq,Data.int.injEq,Data.sl.injEq] at h;exact Yc h.1.1.2 (Yc (af aj _ _ h.1.2.1) (Yc h.1.2.2.1.2 (Yc (af aj _ _ h.1.2.2.2.1) (Yc h.2.1.1.2 (Yc (af aj _ _ h.2.1.2.1) (Yc h.2.1.2.2.1.2 (af aj _ _ h.2.1.2.2.2.1)))))))
@[go_sem] theorem GS (s:Int) (l:List Int) (s2:Int) (l2:List Int) (s3:Int) (l3:List Int) (s4:Int) (l4:List Int) (hc:l.length≤1000000∧l2.length≤1000000∧l3.length≤1000000∧l4.length≤1000000):lH [.agg [.int .i64 s,.sl (l.map aa),.int .i64 s2,.sl (l2.map aa)],.agg [.int .i64 s3,.sl (l3.map aa),.int .i64 s4,.sl (l4.map aa)]]=some (.same (bD (l6 ((s,l),(s2,l2)) ((s3,l3),(s4,l4))))):=(aV Ch (s,l,s2,l2,s3,l3,s4,l4)).trans (an hc _)
theorem NJ (T:Tab) (aZ:T bb=mkE ia) (kf:T dR=mkE wm) (ip:T dE=mkE qX) (s:Int) (l:List Int) (s2:Int) (l2:List Int) (s3:Int) (l3:List Int) (s4:Int) (l4:List Int) (hc:l.length≤1000000∧l2.length≤1000000∧l3.length≤1000000∧l4.length≤1000000) :
  wp T mf_frac_Mul.body (bE mf_frac_Mul.res (.same (bD (l6 ((s,l),(s2,l2)) ((s3,l3),(s4,l4)))))) ⟨ax [.dat (.agg [.int .i64 s,.sl (l.map aa),.int .i64 s2,.sl (l2.map aa)]),.dat (.agg [.int .i64 s3,.sl (l3.map aa),.int .i64 s4,.sl (l4.map aa)])],emp⟩:=by
 refine ap ?_;simp only[mf_frac_Mul];obtain⟨hl1,hl2,hl3,hl4⟩:=hc;unfold l6
 by_cases hr:be ((s,l),(s2,l2))=true
 ·by_cases hr2:be ((s3,l3),(s4,l4))=true
  ·have m1:=kH (s,l) (s3,l3)
   have m2:=kH (s2,l2) (s4,l4);rw[if_pos hr,if_pos hr2];dsimp only;generalize hM1:gz (s,l) (s3,l3)=M1 at *;generalize hM2:gz (s2,l2) (s4,l4)=M2 at *;obtain⟨⟨a1,a2⟩,e1⟩:=M1;obtain⟨⟨b1,b2⟩,e2⟩:=M2;refine qI ?_
   repeat' (intro h<;>simp only[h,go_sem,go_sem_proc,Yd,aZ,kf,ip,hl1,hl2,hl3,hl4,hr,hr2,hM1,hM2,m1,m2,dT,bG,bD,ad]<;>try refine qS ?_ ?_)
  ·have hr2:be ((s3,l3),(s4,l4))=false:=by simpa using hr2
   rw[if_pos hr,if_neg (by simp [hr2])];refine qI ?_
   repeat' (intro h<;>simp only[h,go_sem,go_sem_proc,Yd,aZ,kf,ip,hl1,hl2,hl3,hl4,hr,hr2,bD,ad,bB,Ye]<;>try refine qS ?_ ?_)
 ·have hr:be ((s,l),(s2,l2))=false:=by simpa using hr
  rw[if_neg (by simp [hr])];refine qI ?_
  repeat' (intro h<;>simp only[h,go_sem,go_sem_proc,Yd,aZ,kf,ip,hl1,hl2,hl3,hl4,hr,bD,ad,bB,Ye]<;>try refine qS ?_ ?_)
noncomputable def pm:List Data→Option PRes:=FF (α:=Int × (List Int) × Int × (List Int) × Int × (List Int) × Int × (List Int)) (fun (s,l,s2,l2,s3,l3,s4,l4)=>([.agg [.int .i64 s,.sl (l.map aa),.int .i64 s2,.sl (l2.map aa)],.agg [.int .i64 s3,.sl (l3.map aa),.int .i64 s4,.sl (l4.map aa)]]:List Data)) (fun (s,l,s2,l2,s3,l3,s4,l4)=>aF (l.length≤1000000∧l2.length≤1000000∧l3.length≤1000000∧l4.length≤1000000) (.same (bD (iZ ((s,l),(s2,l2)) ((s3,l3),(s4,l4))))))
theorem CU:∀ a b:Int × (List Int) × Int × (List Int) × Int × (List Int) × Int × (List Int),(fun (s,l,s2,l2,s3,l3,s4,l4)=>([.agg [.int .i64 s,.sl (l.map aa),.int .i64 s2,.sl (l2.map aa)],.agg [.int .i64 s3,.sl (l3.map aa),.int .i64 s4,.sl (l4.map aa)]]:List Data)) a=(fun (s,l,s2,l2,s3,l3,s4,l4)=>([.agg [.int .i64 s,.sl (l.map aa),.int .i64 s2,.sl (l2.map aa)],.agg [.int .i64 s3,.sl (l3.map aa),.int .i64 s4,.sl (l4.map aa)]]:List Data)) b→a=b:=by
  rintro⟨s1,l1,s21,l21,s31,l31,s41,l41⟩ ⟨s2,l2,s22,l22,s32,l32,s42,l42⟩ h;simp only[List.cons.injEq,Data.agg.injEq,Data.int.injEq,Data.sl.injEq] at h;exact Yc h.1.1.2 (Yc (af aj _ _ h.1.2.1) (Yc h.1.2.2.1.2 (Yc (af aj _ _ h.1.2.2.2.1) (Yc h.2.1.1.2 (Yc (af aj _ _ h.2.1.2.1) (Yc h.2.1.2.2.1.2 (af aj _ _ h.2.1.2.2.2.1)))))))
@[go_sem] theorem GR (s:Int) (l:List Int) (s2:Int) (l2:List Int) (s3:Int) (l3:List Int) (s4:Int) (l4:List Int) (hc:l.length≤1000000∧l2.length≤1000000∧l3.length≤1000000∧l4.length≤1000000):pm [.agg [.int .i64 s,.sl (l.map aa),.int .i64 s2,.sl (l2.map aa)],.agg [.int .i64 s3,.sl (l3.map aa),.int .i64 s4,.sl (l4.map aa)]]=some (.same (bD (iZ ((s,l),(s2,l2)) ((s3,l3),(s4,l4))))):=(aV CU (s,l,s2,l2,s3,l3,s4,l4)).trans (an hc _)
theorem Pa (T:Tab) (aZ:T bb=mkE ia) (kf:T dR=mkE wm) (ip:T dE=mkE qX) (s:Int) (l:List Int) (s2:Int) (l2:List Int) (s3:Int) (l3:List Int) (s4:Int) (l4:List Int) (hc:l.length≤1000000∧l2.length≤1000000∧l3.length≤1000000∧l4.length≤1000000) :
  wp T mf_frac_Div.body (bE mf_frac_Div.res (.same (bD (iZ ((s,l),(s2,l2)) ((s3,l3),(s4,l4)))))) ⟨ax [.dat (.agg [.int .i64 s,.sl (l.map aa),.int .i64 s2,.sl (l2.map aa)]),.dat (.agg [.int .i64 s3,.sl (l3.map aa),.int .i64 s4,.sl (l4.map aa)])],emp⟩:=by
 refine ap ?_;simp only[mf_frac_Div];obtain⟨hl1,hl2,hl3,hl4⟩:=hc;unfold iZ
 by_cases hr:be ((s,l),(s2,l2))=true
 ·by_cases hr2:be ((s3,l3),(s4,l4))=true
  ·rw[if_pos hr,if_pos hr2]
   dsimp only;rcases h0:(s3==0)
   ·have m1:=kH (s,l) (s4,l4)
    have m2:=kH (s2,l2) (s3,l3);rw[if_neg (by simp)];generalize hM1:gz (s,l) (s4,l4)=M1 at *;generalize hM2:gz (s2,l2) (s3,l3)=M2 at *;obtain⟨⟨a1,a2⟩,e1⟩:=M1;obtain⟨⟨b1,b2⟩,e2⟩:=M2;refine qI ?_
    repeat' (intro h<;>simp only[h,go_sem,go_sem_proc,Yd,aZ,kf,ip,hl1,hl2,hl3,hl4,hr,hr2,h0,hM1,hM2,m1,m2,dT,bG,bD,ad]<;>try refine qS ?_ ?_)
   ·rw[if_pos rfl]
    refine qI ?_
    repeat' (intro h<;>simp only[h,go_sem,go_sem_proc,Yd,aZ,kf,ip,hl1,hl2,hl3,hl4,hr,hr2,h0,bD,ad,bB,Ye]<;>try refine qS ?_ ?_)
  ·have hr2:be ((s3,l3),(s4,l4))=false:=by simpa using hr2
   rw[if_pos hr,if_neg (by simp [hr2])];refine qI ?_
   repeat' (intro h<;>simp only[h,go_sem,go_sem_proc,Yd,aZ,kf,ip,hl1,hl2,hl3,hl4,hr,hr2,bD,ad,bB,Ye]<;>try refine qS ?_ ?_)
 ·have hr:be ((s,l),(s2,l2))=false:=by simpa using hr
  rw[if_neg (by simp [hr])];refine qI ?_
  repeat' (intro h<;>simp only[h,go_sem,go_sem_proc,Yd,aZ,kf,ip,hl1,hl2,hl3,hl4,hr,bD,ad,bB,Ye]<;>try refine qS ?_ ?_)
def zO (c:Bool) (v:Rat):aS × Int:=if c=true then (ai v,0) else (bB,6)
def okZ (z:Int):Bool:=decide (z.natAbs<LIM)
def jL (x y:Rat):Bool:=okZ (x.num*y.den)&&(okZ (y.num*x.den)&&(okZ (x.num*y.den+y.num*x.den)&&okZ ((x.den:Int)*y.den)))
def qj (x y:Rat):Bool:=okZ (x.num*y.num)&&okZ ((x.den:Int)*y.den)
def nQ (x y:Rat):Bool:=okZ (x.num*y.den)&&okZ ((x.den:Int)*y.num)
theorem iH {z:Int} (h:okZ z=true):lv z=(aO z,0):=if_pos (by simpa [okZ] using h)
theorem jM {z:Int} (h:okZ z=false):lv z=((0,[]),6):=if_neg (by simpa [okZ] using h)
theorem gX {z:Int} (h:okZ z=true):z.natAbs<LIM:=by simpa [okZ] using h
theorem JV {a b c d:Int} (ha:a.natAbs<LIM) (hb:b.natAbs<LIM) (hc:c.natAbs<LIM) (hd:d.natAbs<LIM) :
  uF (aO a) (aO b) (aO c) (aO d)=if (okZ (a*b)&&(okZ (c*d)&&okZ (a*b+c*d)))=true then (aO (a*b+c*d),0) else ((0,[]),6):=by
 unfold uF;rw[jS ha hb,jS hc hd];rcases h1:okZ (a*b)
 ·rw[jM h1];rfl
 ·rw[iH h1]
  rcases h2:okZ (c*d)
  ·rw[jM h2];rfl
  ·rw[iH h2]
   show pZ (aO (a*b)) (aO (c*d))=_;rw[Bx (gX h1) (gX h2)];rcases h3:okZ (a*b+c*d)
   ·rw[jM h3];rfl
   ·rw[iH h3];rfl
theorem py (x y:Rat):YI (x.num*y.den+y.num*x.den) ((x.den:Int)*y.den)=x+y:=by
 rw[←Rat.divInt_add_divInt _ _ (by have:=den_pos x;omega) (by have:=den_pos y;omega),YJ,YJ]
theorem px (x y:Rat):YI (x.num*y.num) ((x.den:Int)*y.den)=x*y:=by
 rw[←YQ,YJ,YJ]
theorem vq (x y:Rat):YI (x.num*y.den) ((x.den:Int)*y.num)=x / y:=by
 rw[←YQ,YJ,←Rat.inv_divInt,YJ]
 rfl
theorem lK (x:Rat):(x.den:Int)≠0:=by have:=den_pos x;omega
theorem Ap {x y:Rat} (hx:cv x) (hy:cv y):uQ (ai x) (ai y)=zO (jL x y) (x+y):=by
 unfold uQ;rw[if_pos (eP hx),if_pos (eP hy)]
 show nr (uF (aO x.num) (aO y.den) (aO y.num) (aO x.den)) (gz (aO x.den) (aO y.den))=_;rw[JV hx.1 (tk hy) hy.1 (tk hx),jS (tk hx) (tk hy)];unfold jL;rcases h1:okZ (x.num*y.den)
 ·rfl
 ·rcases h2:okZ (y.num*x.den)
  ·rfl
  ·rcases h3:okZ (x.num*y.den+y.num*x.den)
   ·rfl
   ·rcases h4:okZ ((x.den:Int)*y.den)
    ·rw[jM h4];rfl
    ·rw[iH h4]
     show fP (aO (x.num*y.den+y.num*x.den)) (aO ((x.den:Int)*y.den))=(ai (x+y),0)
     rw[iP (gX h3) (gX h4) (YR (lK x) (lK y)),py]
theorem Ji {x:Rat} (h:cv x):cv (-x):=⟨by rw[Rat.neg_num];have:=h.1;omega,by rw[Rat.neg_den];exact h.2⟩
theorem qe {x y:Rat} (hx:cv x) (hy:cv y):nu (ai x) (ai y)=zO (jL x (-y)) (x-y):=by
 unfold nu;rw[if_pos (eP hx),if_pos (eP hy)]
 have:(i9 (ai y).1,(ai y).2)=ai (-y):=by
  unfold ai;have:i9 (aO y.num)=aO (-y.num):=by unfold i9;rw[if_pos (bI hy.1),aQ]
  dsimp only;rw[this];rfl
 rw[this,Ap hx (Ji hy),YS]
theorem tv {x y:Rat} (hx:cv x) (hy:cv y):l6 (ai x) (ai y)=zO (qj x y) (x*y):=by
 unfold l6;rw[if_pos (eP hx),if_pos (eP hy)]
 show nr (gz (aO x.num) (aO y.num)) (gz (aO x.den) (aO y.den))=_;rw[jS hx.1 hy.1,jS (tk hx) (tk hy)];unfold qj;rcases h1:okZ (x.num*y.num)
 ·rw[jM h1];rfl
 ·rw[iH h1]
  rcases h4:okZ ((x.den:Int)*y.den)
  ·rw[jM h4];rfl
  ·rw[iH h4]
   show fP (aO (x.num*y.num)) (aO ((x.den:Int)*y.den))=(ai (x*y),0)
   rw[iP (gX h1) (gX h4) (YR (lK x) (lK y)),px]
theorem qV {x y:Rat} (hx:cv x) (hy:cv y) (h0:y≠0):iZ (ai x) (ai y)=zO (nQ x y) (x / y):=by
 unfold iZ;rw[if_pos (eP hx),if_pos (eP hy)];have hn:y.num≠0:=fun h=>h0 (Rat.num_eq_zero.1 h)
 have:((ai y).1.1==0)=false:=by
  show (y.num.sign==0)=false
  simpa using hn
 rw[this,if_neg (by simp)]
 show nr (gz (aO x.num) (aO y.den)) (gz (aO x.den) (aO y.num))=_;rw[jS hx.1 (tk hy),jS (tk hx) hy.1];unfold nQ;rcases h1:okZ (x.num*y.den)
 ·rw[jM h1];rfl
 ·rw[iH h1]
  rcases h4:okZ ((x.den:Int)*y.num)
  ·rw[jM h4];rfl
  ·rw[iH h4]
   show fP (aO (x.num*y.den)) (aO ((x.den:Int)*y.num))=(ai (x / y),0)
   rw[iP (gX h1) (gX h4) (YR (lK x) hn),vq]
theorem Mg {x y:Rat} (h:jL x y=true):cv (x+y):=by
 unfold jL at h;simp only[YK] at h;rw[←py];exact mV (gX h.2.2.1) (gX h.2.2.2)
theorem Ex {x y:Rat} (h:jL x (-y)=true):cv (x-y):=by rw[YS];exact Mg h
theorem Eb {x y:Rat} (h:qj x y=true):cv (x*y):=by
 unfold qj at h;simp only[YK] at h;rw[←px];exact mV (gX h.1) (gX h.2)
theorem Ll {x y:Rat} (h:nQ x y=true):cv (x / y):=by
 unfold nQ at h;simp only[YK] at h;rw[←vq];exact mV (gX h.1) (gX h.2)
def lg (x y:Rat):Int:=(x.num*y.den-y.num*x.den).sign
def pa (a b:aS):Int:=if be a=true then (if be b=true then (gU a.1*gU b.2-gU b.1*gU a.2).sign else 0) else 0
theorem tA {x y:Rat} (hx:cv x) (hy:cv y):pa (ai x) (ai y)=lg x y:=by
 unfold pa;rw[if_pos (eP hx),if_pos (eP hy)];unfold ai lg;rw[aQ,aQ,aQ,aQ]
theorem pS {p q:Int} (hq:0<q):0≤p.fmod q∧p.fmod q<q:=⟨Int.fmod_nonneg_of_pos _ hq,Int.fmod_lt_of_pos _ hq⟩
theorem IX {p q r s:Int} (hq:0<q) (hs:0<s) (h:p.fdiv q<r.fdiv s):p*s-r*q<0:=by
 have e1:=YT p q;have e2:=YT r s;have b1:=pS (p:=p) hq;have b2:=pS (p:=r) hs;generalize p.fdiv q=x at *;generalize r.fdiv s=y at *;generalize p.fmod q=u at *;generalize r.fmod s=v at *;subst e1 e2;have h1:q*s*(x+1)≤q*s*y:=Int.mul_le_mul_of_nonneg_left (by omega) (YA (Int.mul_pos hq hs));have h2:u*s<q*s:=Int.mul_lt_mul_of_pos_right b1.2 hs;have h3:0≤v*q:=Yz b2.1 (by omega);have e3:(q*x+u)*s-(s*y+v)*q=q*s*(x+1)-q*s*y+(u*s-q*s)-v*q:=by grind
 omega
theorem NP {p q r s:Int} (h:p.fdiv q=r.fdiv s):p*s-r*q=p.fmod q*s-r.fmod s*q:=by
 have e1:=YT p q;have e2:=YT r s;rw[h] at e1;generalize r.fdiv s=y at *;generalize p.fmod q=u at *;generalize r.fmod s=v at *;subst e1 e2;grind
theorem wv (a b:Int):(a-b).sign = -(b-a).sign:=by rw[←Yi];congr 1;omega
theorem wj {p q:Int} (hp:p.natAbs<LIM) (hq:q.natAbs<LIM) (h0:0<q) :
  ji (p.sign,dg p.natAbs) (q.sign,dg q.natAbs)=(((p.fdiv q).sign,dg (p.fdiv q).natAbs),((p.fmod q).sign,dg (p.fmod q).natAbs),0):=kL hp hq (by omega)
noncomputable def dC:List Data→Option PRes:=FF (α:=Int × (List Int) × Int × (List Int) × Int × (List Int) × Int × (List Int)) (fun (s,l,s2,l2,s3,l3,s4,l4)=>([.agg [.int .i64 s,.sl (l.map aa),.int .i64 s2,.sl (l2.map aa)],.agg [.int .i64 s3,.sl (l3.map aa),.int .i64 s4,.sl (l4.map aa)]]:List Data)) (fun (s,l,s2,l2,s3,l3,s4,l4)=>aF (l.length≤1000000∧l2.length≤1000000∧l3.length≤1000000∧l4.length≤1000000) (.same (.int .i64 (pa ((s,l),(s2,l2)) ((s3,l3),(s4,l4))))))
theorem uy:∀ a b:Int × (List Int) × Int × (List Int) × Int × (List Int) × Int × (List Int),(fun (s,l,s2,l2,s3,l3,s4,l4)=>([.agg [.int .i64 s,.sl (l.map aa),.int .i64 s2,.sl (l2.map aa)],.agg [.int .i64 s3,.sl (l3.map aa),.int .i64 s4,.sl (l4.map aa)]]:List Data)) a=(fun (s,l,s2,l2,s3,l3,s4,l4)=>([.agg [.int .i64 s,.sl (l.map aa),.int .i64 s2,.sl (l2.map aa)],.agg [.int .i64 s3,.sl (l3.map aa),.int .i64 s4,.sl (l4.map aa)]]:List Data)) b→a=b:=by
  rintro⟨s1,l1,s21,l21,s31,l31,s41,l41⟩ ⟨s2,l2,s22,l22,s32,l32,s42,l42⟩ h;simp only[List.cons.injEq,Data.agg.injEq,Data.int.injEq,Data.sl.injEq] at h;exact Yc h.1.1.2 (Yc (af aj _ _ h.1.2.1) (Yc h.1.2.2.1.2 (Yc (af aj _ _ h.1.2.2.2.1) (Yc h.2.1.1.2 (Yc (af aj _ _ h.2.1.2.1) (Yc h.2.1.2.2.1.2 (af aj _ _ h.2.1.2.2.2.1)))))))
@[go_sem] theorem o0 (s:Int) (l:List Int) (s2:Int) (l2:List Int) (s3:Int) (l3:List Int) (s4:Int) (l4:List Int) (hc:l.length≤1000000∧l2.length≤1000000∧l3.length≤1000000∧l4.length≤1000000):dC [.agg [.int .i64 s,.sl (l.map aa),.int .i64 s2,.sl (l2.map aa)],.agg [.int .i64 s3,.sl (l3.map aa),.int .i64 s4,.sl (l4.map aa)]]=some (.same (.int .i64 (pa ((s,l),(s2,l2)) ((s3,l3),(s4,l4))))):=(aV uy (s,l,s2,l2,s3,l3,s4,l4)).trans (an hc _)
theorem CO (T:Tab) (aZ:T bb=mkE ia) (kj:T iz=mkE Ef) (fQ:T kU=mkE rT) (s:Int) (l:List Int) (s2:Int) (l2:List Int) (s3:Int) (l3:List Int) (s4:Int) (l4:List Int) (hc:l.length≤1000000∧l2.length≤1000000∧l3.length≤1000000∧l4.length≤1000000) :
  wp T mf_frac_Compare.body (bE mf_frac_Compare.res (.same (.int .i64 (pa ((s,l),(s2,l2)) ((s3,l3),(s4,l4)))))) ⟨ax [.dat (.agg [.int .i64 s,.sl (l.map aa),.int .i64 s2,.sl (l2.map aa)]),.dat (.agg [.int .i64 s3,.sl (l3.map aa),.int .i64 s4,.sl (l4.map aa)])],emp⟩:=by
 refine ap ?_;simp only[mf_frac_Compare];obtain⟨hl1,hl2,hl3,hl4⟩:=hc
 by_cases hr:be ((s,l),(s2,l2))=true
 ·by_cases hr2:be ((s3,l3),(s4,l4))=true
  ·obtain⟨x,hx,e⟩:=(kQ _).1 hr
   obtain⟨y,hy,e2⟩:=(kQ _).1 hr2;have hm:pa ((s,l),(s2,l2)) ((s3,l3),(s4,l4))=lg x y:=by rw[e,e2,tA hx hy]
   rw[hm];clear hm;have ea:(s,l)=aO x.num:=congrArg YP e;have eb:(s2,l2)=aO x.den:=congrArg Prod.snd e;have ec:(s3,l3)=aO y.num:=congrArg YP e2;have ed:(s4,l4)=aO y.den:=congrArg Prod.snd e2;clear e e2;have hxd:=tk hx;have hyd:=tk hy;have hx0:=den_pos x;have hy0:=den_pos y;have hxn:=hx.1;have hyn:=hy.1;unfold lg;generalize x.num=P at *;generalize (x.den:Int)=Q at *;generalize y.num=R at *;generalize (y.den:Int)=S at *
   cases ea
   cases eb
   cases ec
   cases ed;simp only[go_sem,go_sem_proc,Yd,aZ,kj,fQ,hl1,hl2,hl3,hl4,hr,hr2];refine ae [5,6,7,8] [135002,135003] (fun ((sg,p,q,r,t):Int × Int × Int × Int × Int) tm mem=>(sg=1∨sg = -1)∧0<q∧0<t∧p.natAbs<LIM∧q.natAbs<LIM∧r.natAbs<LIM∧t.natAbs<LIM∧(P*S-R*Q).sign=sg*(p*t-r*q).sign∧tm 9 = .dat (.int .i64 sg)∧mem 135005=some (0,[.dat (.int .i64 p.sign),.dat (.sl ((dg p.natAbs).map aa))])∧mem 135006=some (0,[.dat (.int .i64 q.sign),.dat (.sl ((dg q.natAbs).map aa))])∧mem 135007=some (0,[.dat (.int .i64 r.sign),.dat (.sl ((dg r.natAbs).map aa))])∧mem 135008=some (0,[.dat (.int .i64 t.sign),.dat (.sl ((dg t.natAbs).map aa))])) (fun (_,_,q,_,_)=>q.natAbs) (1,P,Q,R,S) (by refine⟨.inl rfl,hx0,hy0,hxn,hxd,hyn,hyd,by rw[X3],rfl,?_,?_,?_,?_⟩<;>rfl) ?_
   intro vs ms hvs hms;simp only[go_sem,go_sem_proc,Yd,aZ,kj,fQ] at hvs hms;subst hvs hms;rintro⟨sg,p,q,r,t⟩ tm mem hk hm ⟨hsg,hq0,ht0,hp,hq,hrr,ht,hval,h9,m5,m6,m7,m8⟩;simp only[go_sem,go_sem_proc,Yd,aZ,kj,fQ,List.cons.injEq] at hk hm;obtain⟨h5,h6,h7,h8⟩:=hk;have lp:=eU hp;have lq:=eU hq;have lr:=eU hrr;have lt:=eU ht;have hd1:=wj hp hq hq0;have hd2:=wj hrr ht ht0;have bx:=mg (y:=q) hp (by omega);have by':=mg (y:=t) hrr (by omega)
   have lx:=eU bx;have ly:=eU by'
   have hcm:tE ((p.fdiv q).sign,dg (p.fdiv q).natAbs) ((r.fdiv t).sign,dg (r.fdiv t).natAbs)=fT (p.fdiv q) (r.fdiv t):=Au bx by'
   have bu:=pS (p:=p) hq0;have bv:=pS (p:=r) ht0;have hneg1:IntKind.i64.wrap (0-sg) = -sg:=by rcases hsg with rfl | rfl<;>rfl
   rcases YN (p.fdiv q) (r.fdiv t) with hlt | heq | hgt
   ·have hv:=IX hq0 ht0 hlt
    rw[qt hlt] at hcm;rw[hval,Ys hv];have hw:IntKind.i64.wrap (sg * -1)=sg * -1:=by rcases hsg with rfl | rfl<;>rfl
    refine qI ?_
    repeat' (intro h<;>simp only[h,go_sem,go_sem_proc,Yd,aZ,kj,fQ,h5,h6,h7,h8,h9,hm,m5,m6,m7,m8,lp,lq,lr,lt,lx,ly,hd1,hd2,hcm,hw,dc,bG,show ((-1:Int)==0)=false from rfl]<;>try refine qS ?_ ?_)
   ·have hv:=NP heq
    rw[heq,sW] at hcm
    have hw2:∀ a:Int,-1≤a→a≤1→IntKind.i64.wrap (sg*a)=sg*a:=by
     intro a h1 h2;rcases hsg with rfl | rfl<;>exact ak _ (by omega) (by omega)
    rw[heq] at hd1 lx;have bul:(p.fmod q).natAbs<LIM:=by omega
    have bvl:(r.fmod t).natAbs<LIM:=by omega
    rw[hv] at hval;generalize p.fmod q=u at *;generalize r.fmod t=v at *
    by_cases hu:u=0
    ·subst hu
     have hs:(0*t-v*q).sign=(0:Int).sign-v.sign:=by
      rw[X4,YU,Yi,Yf,Yj hq0,X6,YV,YU]
     rw[hs] at hval;rw[hval];have h3:=d7 v;have hw0:IntKind.i64.wrap ((0:Int).sign-v.sign)=(0:Int).sign-v.sign:=ak _ (by rw[YV];omega) (by rw[YV];omega);have hw:=hw2 ((0:Int).sign-v.sign) (by rw[YV];omega) (by rw[YV];omega);refine qI ?_
     repeat' (intro h<;>simp only[h,go_sem,go_sem_proc,Yd,aZ,kj,fQ,h5,h6,h7,h8,h9,hm,m5,m6,m7,m8,lp,lq,lr,lt,lx,ly,hd1,hd2,hcm,hw,hw0,dc,bG,show ((0:Int)==0)=true from rfl,show ((0:Int).sign==0)=true from rfl]<;>try refine qS ?_ ?_)
    ·have hu0:0<u:=by omega
     have hu1:(u.sign==0)=false:=by simpa using hu
     by_cases hv0:v=0
     ·subst hv0
      have hs:(u*t-0*q).sign=u.sign-(0:Int).sign:=by
       rw[X4,YW,Yf,Yj ht0,X6,YV,YW]
      rw[hs] at hval;rw[hval];have h3:=d7 u;have hw0:IntKind.i64.wrap (u.sign-(0:Int).sign)=u.sign-(0:Int).sign:=ak _ (by rw[YV];omega) (by rw[YV];omega);have hw:=hw2 (u.sign-(0:Int).sign) (by rw[YV];omega) (by rw[YV];omega);refine qI ?_
      repeat' (intro h<;>simp only[h,go_sem,go_sem_proc,Yd,aZ,kj,fQ,h5,h6,h7,h8,h9,hm,m5,m6,m7,m8,lp,lq,lr,lt,lx,ly,hd1,hd2,hcm,hw,hw0,hu1,dc,bG,show ((0:Int)==0)=true from rfl,show ((0:Int).sign==0)=true from rfl]<;>try refine qS ?_ ?_)
     ·have hv1:(v.sign==0)=false:=by simpa using hv0
      refine qI ?_
      repeat' (intro h<;>simp only[h,go_sem,go_sem_proc,Yd,aZ,kj,fQ,h5,h6,h7,h8,h9,hm,m5,m6,m7,m8,lp,lq,lr,lt,lx,ly,hd1,hd2,hcm,hu1,hv1,hneg1,dc,bG,show ((0:Int)==0)=true from rfl]<;>try refine qS ?_ ?_)
      refine⟨(-sg,q,u,t,v),by dsimp only;omega,by dsimp only;omega,by dsimp only;omega,by dsimp only;omega,by dsimp only;omega,by dsimp only;omega,by dsimp only;omega,by dsimp only;omega,?_,by simp [go_sem],by simp [go_sem],by simp [go_sem],by simp [go_sem],by simp [go_sem]⟩
      dsimp only;rw[hval,wv (q*v) (t*u),Int.neg_mul_neg,YG t u,YG q v]
   ·have hv:=IX ht0 hq0 hgt
    rw[qH hgt] at hcm;rw[hval,wv,Ys hv];have hw:IntKind.i64.wrap (sg*1)=sg * -(-1):=by rcases hsg with rfl | rfl<;>rfl
    refine qI ?_
    repeat' (intro h<;>simp only[h,go_sem,go_sem_proc,Yd,aZ,kj,fQ,h5,h6,h7,h8,h9,hm,m5,m6,m7,m8,lp,lq,lr,lt,lx,ly,hd1,hd2,hcm,hw,dc,bG,show ((1:Int)==0)=false from rfl]<;>try refine qS ?_ ?_)
  ·have hr2:be ((s3,l3),(s4,l4))=false:=by simpa using hr2
   have hm:pa ((s,l),(s2,l2)) ((s3,l3),(s4,l4))=0:=by unfold pa;rw[if_pos hr,if_neg (by simp [hr2])]
   rw[hm];refine qI ?_
   repeat' (intro h<;>simp only[h,go_sem,go_sem_proc,Yd,aZ,kj,fQ,hl1,hl2,hl3,hl4,hr,hr2]<;>try refine qS ?_ ?_)
 ·have hr:be ((s,l),(s2,l2))=false:=by simpa using hr
  have hm:pa ((s,l),(s2,l2)) ((s3,l3),(s4,l4))=0:=by unfold pa;rw[if_neg (by simp [hr])]
  rw[hm];refine qI ?_
  repeat' (intro h<;>simp only[h,go_sem,go_sem_proc,Yd,aZ,kj,fQ,hl1,hl2,hl3,hl4,hr]<;>try refine qS ?_ ?_)
end Go.Mini
