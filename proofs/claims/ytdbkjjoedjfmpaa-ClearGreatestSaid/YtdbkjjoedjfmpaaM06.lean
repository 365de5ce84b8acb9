/- A part of the proof. -/
import Derived.Test.YtdbkjjoedjfmpaaM05
import Derived.Test.YtdbkjjoedjfmpaaM04
set_option linter.unusedSimpArgs false
set_option linter.unusedVariables false
open Nat renaming div_add_mod → Xm, eq_zero_or_pos → Xo, mod_lt → Xp, zero_mod → Xz, mul_le_mul_right → XA, div_le_self → XB, le_of_lt → XJ, pos_of_ne_zero → XP, reduceMul → X5, gcd → Ya
open Int renaming ofNat_sub → Xq, natCast_add → Xr, mul_neg → Xs, mul_add → Xt, neg_mul → Xu, one_mul → Xv, zero_mul → Xw, mul_zero → Xx, mul_one → Xy, natAbs_mul → XC, natAbs_natCast → XD, sign_eq_zero_iff_zero → XH, sign_mul → XI, natAbs_neg → XK, sign_neg → XL, sign_eq_one_of_pos → XM, sign_sign → XN, sign_eq_neg_one_of_neg → XV, natCast_zero → XW, cast_ofNat_Int → XX, mul_nonneg → X2, le_of_lt → X3, pow_pos → X4, reducePow → X6, toNat_natCast → X8, mul_comm → X9, fdiv_eq_ediv_of_nonneg → Yf, lt_trichotomy → Yg, mul_ne_zero → Yk, mul_fdiv_add_fmod → Ym, zero_sub → Yn, sign_zero → Yo, sub_zero → Yp
open Prod renaming ext → XE, ext_iff → XS, fst → Yi
open Bool renaming false_eq_true → XF, and_false → XQ, false_and → XR, and_eq_true → Yd, true_and → Ye
open List renaming map_nil → XG, length_map → XO, append_nil → XU, take_length → XY, length → XZ, length_append → X0, append_assoc → X1, getElem?_map → X7
open Decidable renaming em → XT
open Rat renaming divInt → Yb, num_divInt_den → Yc, neg_divInt_neg → Yh, divInt_mul_divInt → Yj, sub_eq_add_neg → Yl
namespace Go.Mini
open Go
set_option maxRecDepth 10000
set_option maxHeartbeats 2000000
def jp (a b:Raw):Raw × Raw × Int :=
 if (aJ a&&aJ b)=true then
  if gG b=0 then ((0,[]),(0,[]),15) else (aR ((gG a).fdiv (gG b)),aR ((gG a).fmod (gG b)),0)
 else ((0,[]),(0,[]),1)
def c9 (x:Raw × Raw × Int):Data:=.tup [.agg (bD x.1),.agg (bD x.2.1),.int .i64 x.2.2]
theorem DW {x y q r:Int} (h:r+y*q=x) (hr:(0≤r∧r<y)∨(y<r∧r≤0)):x.fdiv y=q∧x.fmod y=r:=by
 rcases hr with ⟨h1,h2⟩ | ⟨h1,h2⟩
 ·exact (Int.fdiv_fmod_unique (by omega)).2 ⟨h,h1,h2⟩
 ·exact (Int.fdiv_fmod_unique' (by omega)).2 ⟨h,h1,h2⟩
theorem oG {x y:Int} (h:x.sign*y.sign<0) (hm:x.natAbs % y.natAbs≠0) :
  x.fdiv y = -((x.natAbs / y.natAbs+1:Nat):Int)∧x.fmod y=y.sign*((y.natAbs-x.natAbs % y.natAbs:Nat):Int):=by
 have h2:=Xm x.natAbs y.natAbs;generalize hQ:x.natAbs / y.natAbs=Q at *;generalize hR:x.natAbs % y.natAbs=R at *
 have hy:0<y.natAbs:=by
  rcases Xo y.natAbs with h0 | h0
  ·rw[Int.natAbs_eq_zero.1 h0] at h;simp at h
  ·exact h0
 have hlt:R<y.natAbs:=by rw[←hR];exact Xp _ hy
 have h2':(y.natAbs:Int)*Q+R=x.natAbs:=by exact_mod_cast h2
 refine DW ?_ ?_
 ·rcases cz x with ⟨e,h1⟩ | ⟨e,h1⟩ | ⟨e,h1⟩<;>rcases cz y with ⟨e',h3⟩ | ⟨e',h3⟩ | ⟨e',h3⟩<;>rw[e,e'] at h<;>first | omega | rw[e']
  ·rw[Xq (by omega),Xr,Xs,Xt]
   have:(y.natAbs:Int) = -y:=by omega
   rw[this] at h2' ⊢;rw[Xu] at h2';omega
  ·rw[Xq (by omega),Xr,Xs,Xt]
   have:(y.natAbs:Int)=y:=by omega
   rw[this] at h2' ⊢;omega
 ·rcases cz y with ⟨e',h3⟩ | ⟨e',h3⟩ | ⟨e',h3⟩<;>rw[e']<;>omega
theorem lf {x y:Int} (hy:y≠0) (h:¬ (x.sign*y.sign<0∧x.natAbs % y.natAbs≠0)) :
  x.fdiv y=x.sign*y.sign*((x.natAbs / y.natAbs:Nat):Int)∧x.fmod y=x.sign*((x.natAbs % y.natAbs:Nat):Int):=by
 have h2:=Xm x.natAbs y.natAbs;have hlt:x.natAbs % y.natAbs<y.natAbs:=Xp _ (by omega);generalize hQ:x.natAbs / y.natAbs=Q at *;generalize hR:x.natAbs % y.natAbs=R at *;have h2':(y.natAbs:Int)*Q+R=x.natAbs:=by exact_mod_cast h2
 refine DW ?_ ?_
 ·rcases cz x with ⟨e,h1⟩ | ⟨e,h1⟩ | ⟨e,h1⟩<;>rcases cz y with ⟨e',h3⟩ | ⟨e',h3⟩ | ⟨e',h3⟩<;>first | omega | (rw[e,e'])
  ·rw[show (y.natAbs:Int)=y by omega] at h2';simp only[Xv];omega
  ·rw[show (y.natAbs:Int) = -y by omega,Xu] at h2';simp only[Xv,Xu,Xs];omega
  ·simp only[Xw,Xx];omega
  ·simp only[Xw,Xx];omega
  ·rw[show (y.natAbs:Int)=y by omega] at h2';simp only[Xv,Xu,Xs,Xy];omega
  ·rw[show (y.natAbs:Int) = -y by omega,Xu] at h2';simp only[Xv,Xu,Xs,Int.neg_neg];omega
 ·have hR0:x.natAbs=0→R=0:=by
   intro h0;rw[←hR,h0,Xz]
  rcases cz x with ⟨e,h1⟩ | ⟨e,h1⟩ | ⟨e,h1⟩<;>rcases cz y with ⟨e',h3⟩ | ⟨e',h3⟩ | ⟨e',h3⟩<;>rw[e,e'] at h<;>rw[e]<;>omega
theorem ma {x y:Int} (hx:x.natAbs<LIM) (hy0:y≠0):(x.fdiv y).natAbs<LIM:=by
 by_cases h:x.sign*y.sign<0∧x.natAbs % y.natAbs≠0
 ·have hf:=(oG h.1 h.2).1
  have h2:=Xm x.natAbs y.natAbs
  have:x.natAbs / y.natAbs+1≤x.natAbs:=by
   have hy2:2≤y.natAbs:=by
    rcases Nat.lt_or_ge y.natAbs 2 with h0 | h0
    ·have:y.natAbs=1:=by omega
     rw[this,Nat.mod_one] at h;exact absurd rfl h.2
    ·exact h0
   have h3:2*(x.natAbs / y.natAbs)≤y.natAbs*(x.natAbs / y.natAbs):=XA _ hy2;omega
  generalize x.natAbs / y.natAbs=Q at *;omega
 ·have hf:=(lf hy0 h).1
  have h3:x.natAbs / y.natAbs≤x.natAbs:=XB _ _
  have h4:(x.fdiv y).natAbs≤x.natAbs / y.natAbs:=by
   rw[hf,XC,XC,XD];have h1:x.sign.natAbs≤1:=by have:=dW x;omega
   have h2:y.sign.natAbs≤1:=by have:=dW y;omega
   have:=Nat.mul_le_mul h1 h2;have:=XA (x.natAbs / y.natAbs) this;omega
  omega
theorem BI {x y:Int} (hy:y.natAbs<LIM) (hy0:y≠0):(x.fmod y).natAbs<LIM:=by
 by_cases h:x.sign*y.sign<0∧x.natAbs % y.natAbs≠0
 ·have hf:=(oG h.1 h.2).2
  rcases cz y with ⟨e',h3⟩ | ⟨e',h3⟩ | ⟨e',h3⟩<;>rw[e'] at hf<;>omega
 ·have hf:=(lf hy0 h).2
  have hlt:x.natAbs % y.natAbs<y.natAbs:=Xp _ (by omega);rcases cz x with ⟨e',h3⟩ | ⟨e',h3⟩ | ⟨e',h3⟩<;>rw[e'] at hf<;>omega
theorem kr {x y:Int} (hx:x.natAbs<LIM) (hy:y.natAbs<LIM) (h0:y≠0):jp (aR x) (aR y)=(aR (x.fdiv y),aR (x.fmod y),0):=by
 unfold jp;rw[bI hx,bI hy,aS,aS,if_pos (by rfl),if_neg h0]
noncomputable def DL:List Data→Option PRes:=FF (α:=Int × (List Int) × Int × (List Int)) (fun (s,l,s2,l2)=>([.agg [.int .i64 s,.sl (l.map aa)],.agg [.int .i64 s2,.sl (l2.map aa)]]:List Data)) (fun (s,l,s2,l2)=>aI (l.length≤1000000∧l2.length≤1000000) (.same (c9 (jp (s,l) (s2,l2)))))
theorem GZ:∀ a b:Int × (List Int) × Int × (List Int),(fun (s,l,s2,l2)=>([.agg [.int .i64 s,.sl (l.map aa)],.agg [.int .i64 s2,.sl (l2.map aa)]]:List Data)) a=(fun (s,l,s2,l2)=>([.agg [.int .i64 s,.sl (l.map aa)],.agg [.int .i64 s2,.sl (l2.map aa)]]:List Data)) b→a=b:=by
  rintro⟨s1,l1,s21,l21⟩ ⟨s2,l2,s22,l22⟩ h;simp only[List.cons.injEq,Data.agg.injEq,Data.int.injEq,Data.sl.injEq] at h;exact XE h.1.1.2 (XE (af ai _ _ h.1.2.1) (XE h.2.1.1.2 (af ai _ _ h.2.1.2.1)))
@[go_sem] theorem PU (s:Int) (l:List Int) (s2:Int) (l2:List Int) (hc:l.length≤1000000∧l2.length≤1000000):DL [.agg [.int .i64 s,.sl (l.map aa)],.agg [.int .i64 s2,.sl (l2.map aa)]]=some (.same (c9 (jp (s,l) (s2,l2)))):=(aX GZ (s,l,s2,l2)).trans (al hc _)
theorem Qb (T:Tab) (ak:T ba=mkE d8) (iF:T kK=mkE Ey) (gh:T kH=mkE Er) (gm:T jc=mkE Ev) (aM:T bA=mkE jC) (s:Int) (l:List Int) (s2:Int) (l2:List Int) (hc:l.length≤1000000∧l2.length≤1000000) :
  wp T mf_big_Div.body (bF mf_big_Div.res (.same (c9 (jp (s,l) (s2,l2))))) ⟨ax [.dat (.agg [.int .i64 s,.sl (l.map aa)]),.dat (.agg [.int .i64 s2,.sl (l2.map aa)])],emp⟩:=by
 refine ap ?_;simp only[mf_big_Div];obtain⟨hl1,hl2⟩:=hc
 by_cases hr:aJ (s,l)=true
 ·by_cases hr2:aJ (s2,l2)=true
  ·obtain⟨x,hx,e⟩:=(bj _).1 hr
   obtain⟨y,hy,e2⟩:=(bj _).1 hr2
   by_cases hy0:y=0
   ·have hm:jp (s,l) (s2,l2)=((0,[]),(0,[]),15):=by
     rw[e,e2];unfold jp
     rw[bI hx,bI hy,aS,aS,if_pos (by rfl),if_pos hy0]
    rw[hm]
    cases e
    cases e2;have h0:((y.sign:Int)==0)=true:=by rw[hy0];rfl
    simp only[go_sem,go_sem_proc,XF,ak,iF,gh,gm,aM,hr,hr2,hl1,hl2,h0,bD,c9,XG]
    repeat' (first|refine qS ?_ ?_|fail)<;>intro h<;>simp only[h,go_sem,go_sem_proc,XF,ak,iF,gh,gm,aM,hr,hr2,hl1,hl2,h0,bD,c9,XG]
   ·have hm:jp (s,l) (s2,l2)=(aR (x.fdiv y),aR (x.fmod y),0):=by
     rw[e,e2];exact kr hx hy hy0
    rw[hm];clear hm
    cases e
    cases e2;have hlx:=fI hx;have hly:=fI hy;have hy0':(y.sign==0)=false:=by rw[beq_eq_false_iff_ne,Ne,XH];exact hy0
    have hypos:0<y.natAbs:=by omega
    have h1:=dW x;have h2:=dW y;have hp:x.sign*y.sign=(x*y).sign:=(XI x y).symm;have h3:=dW (x*y);have hw:IntKind.i64.wrap (x.sign*y.sign)=x.sign*y.sign:=by rw[hp];exact an _ (by omega) (by omega)
    have hdiv:=zY x.natAbs y.natAbs ⟨by omega,by omega,hypos⟩
    simp only[digs] at hdiv;have hq:=ma (y:=y) hx hy0;have hr3:=BI (x:=x) hy hy0;have hlq:x.natAbs / y.natAbs<LIM:=Nat.lt_of_le_of_lt (XB _ _) hx;have hlq':(dg (x.natAbs / y.natAbs)).length≤60:=dg_len.2 hlq;have hlr:x.natAbs % y.natAbs<LIM:=Nat.lt_trans (Xp _ hypos) hy;have hlr':(dg (x.natAbs % y.natAbs)).length≤60:=dg_len.2 hlr
    by_cases hlow:x.sign*y.sign<0∧x.natAbs % y.natAbs≠0
    ·obtain⟨eq,er⟩:=oG hlow.1 hlow.2
     have hne:decide (((dg (x.natAbs % y.natAbs)).length:Int)>0)=true:=by
      have:dg (x.natAbs % y.natAbs)≠[]:=by rw[Ne,mY];exact hlow.2
      have:=List.length_pos_iff.2 this;exact decide_eq_true (by omega)
     have hneg:decide (x.sign*y.sign<0)=true:=decide_eq_true hlow.1;have hd1:dg 1=[1]:=by simp [dg,dgF]
     have hl1d:(dg 1).length=1:=by rw[hd1];rfl
     have hadd:=Bh (x.natAbs / y.natAbs) 1 ⟨by omega,by omega⟩
     simp only[digs,hd1,List.map_cons,XG,aa] at hadd;have hsub:=ug y.natAbs (x.natAbs % y.natAbs) ⟨by omega,XJ (Xp _ hypos)⟩
     simp only[digs] at hsub
     have hla:(dg (x.natAbs / y.natAbs+1)).length≤1000000:=by
      have:(x.natAbs / y.natAbs+1)<LIM:=by rw[eq] at hq;rw[XK,XD] at hq;exact hq
      have:=(dg_len (k:=60)).2 this;omega
     have hlb:(dg (y.natAbs-x.natAbs % y.natAbs)).length≤1000000:=by have:=sF y.natAbs (x.natAbs % y.natAbs);omega
     have hs1:fb (-1) (dg (x.natAbs / y.natAbs+1))=aR (x.fdiv y):=cX (by rw[eq,XK,XD]) fun _=>by rw[eq,XL,XM (show (0:Int)<((x.natAbs / y.natAbs+1:Nat):Int) by exact Int.natCast_pos.2 (Nat.succ_pos _))]
     have hs2:fb y.sign (dg (y.natAbs-x.natAbs % y.natAbs))=aR (x.fmod y):=by
      refine cX ?_ fun hn=>?_
      ·rw[er];rcases cz y with ⟨e',h3⟩ | ⟨e',h3⟩ | ⟨e',h3⟩<;>rw[e']<;>omega
      ·rw[er,XI,XN,XM (show (0:Int)<((y.natAbs-x.natAbs % y.natAbs:Nat):Int) by omega),Xy]
     simp only[go_sem,go_sem_proc,XF,ak,iF,gh,gm,aM,hr,hr2,hl1,hl2,hy0',hw,hdiv,hne,hneg,hadd,hsub,hla,hlb,hs1,hs2,aa,XO,bD,c9,cO]
     repeat' (first|refine qS ?_ ?_|fail)<;>intro h<;>simp only[h,go_sem,go_sem_proc,XF,ak,iF,gh,gm,aM,hr,hr2,hl1,hl2,hy0',hw,hdiv,hne,hneg,hadd,hsub,hla,hlb,hs1,hs2,aa,XO,bD,c9,cO]
    ·obtain⟨eq,er⟩:=lf hy0 hlow
     have hlow':(decide (x.sign*y.sign<0)=true∧decide (((dg (x.natAbs % y.natAbs)).length:Int)>0)=false)∨decide (x.sign*y.sign<0)=false:=by
      by_cases hn:x.sign*y.sign<0
      ·left
       have:x.natAbs % y.natAbs=0:=Decidable.not_not.1 fun h=>hlow ⟨hn,h⟩
       rw[this];exact⟨decide_eq_true hn,rfl⟩
      ·right;exact decide_eq_false hn
     have hla:(dg (x.natAbs / y.natAbs)).length≤1000000:=by omega
     have hlb:(dg (x.natAbs % y.natAbs)).length≤1000000:=by omega
     have hs1:fb (x.sign*y.sign) (dg (x.natAbs / y.natAbs))=aR (x.fdiv y):=by
      refine cX ?_ fun hn=>?_
      ·rw[eq]
       have hgen:∀ Q:Nat,(x=0→Q=0)→(x.sign*y.sign*(Q:Int)).natAbs=Q:=by
        intro Q h0;rcases cz x with ⟨e,h1⟩ | ⟨e,h1⟩ | ⟨e,h1⟩<;>rcases cz y with ⟨e',h3⟩ | ⟨e',h3⟩ | ⟨e',h3⟩<;>rw[e,e']<;>first | omega | (rw[h0 h1];rfl)
       exact hgen _ fun h0=>by rw[h0];exact Nat.zero_div _
      ·rw[eq,hp,XI,XI,XI,XN,XN,XM (show (0:Int)<((x.natAbs / y.natAbs:Nat):Int) from Int.natCast_pos.2 (XP hn)),Xy]
     have hs2:fb x.sign (dg (x.natAbs % y.natAbs))=aR (x.fmod y):=by
      refine cX ?_ fun hn=>?_
      ·rw[er]
       have hgen:∀ Q:Nat,(x=0→Q=0)→(x.sign*(Q:Int)).natAbs=Q:=by
        intro Q h0;rcases cz x with ⟨e,h1⟩ | ⟨e,h1⟩ | ⟨e,h1⟩<;>rw[e]<;>first | omega | (rw[h0 h1];rfl)
       exact hgen _ fun h0=>by rw[h0];exact Xz _
      ·rw[er,XI,XN,XM (show (0:Int)<((x.natAbs % y.natAbs:Nat):Int) from Int.natCast_pos.2 (XP hn)),Xy]
     rcases hlow' with ⟨hlow1,hlow2⟩ | hlow1
     ·simp only[go_sem,go_sem_proc,XF,ak,iF,gh,gm,aM,hr,hr2,hl1,hl2,hy0',hw,hdiv,hlow1,hlow2,hla,hlb,hs1,hs2,aa,XO,bD,c9,cO]
      repeat' (first|refine qS ?_ ?_|fail)<;>intro h<;>simp only[h,go_sem,go_sem_proc,XF,ak,iF,gh,gm,aM,hr,hr2,hl1,hl2,hy0',hw,hdiv,hlow1,hlow2,hla,hlb,hs1,hs2,aa,XO,bD,c9,cO]
     ·simp only[go_sem,go_sem_proc,XF,ak,iF,gh,gm,aM,hr,hr2,hl1,hl2,hy0',hw,hdiv,hlow1,hla,hlb,hs1,hs2,aa,XO,bD,c9,cO]
      repeat' (first|refine qS ?_ ?_|fail)<;>intro h<;>simp only[h,go_sem,go_sem_proc,XF,ak,iF,gh,gm,aM,hr,hr2,hl1,hl2,hy0',hw,hdiv,hlow1,hla,hlb,hs1,hs2,aa,XO,bD,c9,cO]
  ·have hr2:aJ (s2,l2)=false:=by simpa using hr2
   have hm:jp (s,l) (s2,l2)=((0,[]),(0,[]),1):=by unfold jp;rw[hr2,XQ];rfl
   rw[hm];simp only[go_sem,go_sem_proc,XF,ak,iF,gh,gm,aM,hr,hr2,hl1,hl2,bD,c9,XG]
   repeat' (first|refine qS ?_ ?_|fail)<;>intro h<;>simp only[h,go_sem,go_sem_proc,XF,ak,iF,gh,gm,aM,hr,hr2,hl1,hl2,bD,c9,XG]
 ·have hr:aJ (s,l)=false:=by simpa using hr
  have hm:jp (s,l) (s2,l2)=((0,[]),(0,[]),1):=by unfold jp;rw[hr,XR];rfl
  rw[hm];simp only[go_sem,go_sem_proc,XF,ak,iF,gh,gm,aM,hr,hl1,hl2,bD,c9,XG]
  repeat' (first|refine qS ?_ ?_|fail)<;>intro h<;>simp only[h,go_sem,go_sem_proc,XF,ak,iF,gh,gm,aM,hr,hl1,hl2,bD,c9,XG]
def cn (n:Int):Prop:=-9223372036854775808≤n∧n≤9223372036854775807
theorem Mu {n:Nat} (h:n≤9223372036854775808):n<LIM:=by
 unfold LIM;refine Nat.lt_of_lt_of_le (m:=1048576^4) ?_ (Nat.pow_le_pow_right (by omega) (by omega));omega
theorem jx {n:Int} (h:cn n):n.natAbs<LIM:=Mu (by unfold cn at h;omega)
theorem rc (n:Int) (h1:-18446744073709551616≤n) (h2:n<0):IntKind.u64.wrap n=n+18446744073709551616:=by
 unfold IntKind.wrap;simp [IntKind.bits,IntKind.signed];omega
noncomputable def yC:List Data→Option PRes:=FF (α:=Int) (fun (n:Int)=>([.int .i64 n]:List Data)) (fun (n:Int)=>aI (cn n) (.same (.agg (bD (aR n)))))
theorem zE:∀ a b:Int,(fun (n:Int)=>([.int .i64 n]:List Data)) a=(fun (n:Int)=>([.int .i64 n]:List Data)) b→a=b:=by
  intro n1 n2 h;simp only[List.cons.injEq,Data.int.injEq,Data.agg.injEq,Data.sl.injEq,Data.bool.injEq,Data.str.injEq,Data.ptr.injEq,Data.tup.injEq,Prod.mk.injEq,true_and,and_true] at h ⊢
  first | exact h | simpa [XS,and_assoc] using h | grind
@[go_sem] theorem M8 (n:Int) (hc:cn n):yC [.int .i64 n]=some (.same (.agg (bD (aR n)))):=(aX zE n).trans (al hc _)
theorem Ls (T:Tab) (aM:T bA=mkE jC) (n:Int) (hc:cn n) :
  wp T mf_big_Of.body (bF mf_big_Of.res (.same (.agg (bD (aR n))))) ⟨ax [.dat (.int .i64 n)],emp⟩:=by
 refine ap ?_;simp only[mf_big_Of];have hc':=hc;unfold cn at hc';obtain⟨hn1,hn2⟩:=hc';have hs:∀ s:Int,(n≠0→s=n.sign)→fb s (dg n.natAbs)=aR n:=fun s h=>cX rfl fun hne=>h (by omega)
 have hlen:(dg n.natAbs).length≤60:=dg_len.2 (jx hc);rcases XT (n<0) with hneg | hpos
 ·have hw:=rc n (by omega) hneg
  have hw2:IntKind.u64.wrap (0-(n+18446744073709551616))=(n.natAbs:Int):=by
   rw[rc _ (by omega) (by omega)];omega
  simp only[go_sem,go_sem_proc,XF,aM,hneg,hw,hw2,decide_true];refine ae [2,3] [150002] (fun ((u,g,l):Nat × Nat × List Int) tm mem=>u≤9223372036854775808∧dg n.natAbs=l++dg u∧tm 4 = .dat (.int .u64 u)∧tm 5 = .ref 150021 g 1 0 l.length∧mem 150021=some (g,aA aa l)) (fun (u,_)=>u) (n.natAbs,0,[]) (by refine⟨by omega,rfl,?_,rfl,rfl⟩;rfl) ?_;intro vs ms hvs hms;simp only[go_sem,go_sem_proc,XF,aM] at hvs hms;subst hvs hms;rintro⟨u,g,l⟩ tm mem hk hm ⟨hu,hd,h4,h5,hm21⟩;simp only[go_sem,go_sem_proc,XF,aM,List.cons.injEq] at hk hm;obtain⟨h2,h3⟩:=hk;rcases Xo u with h0 | hup
  ·subst h0
   rw[fW,XU] at hd;rw[hd] at hs hlen;have hlen':l.length≤1000000:=by omega
   have hs':=hs (-1) (fun _=>by exact (XV hneg).symm);simp only[go_sem,go_sem_proc,XF,aM,h2,h3,h4,h5,hm,hm21,hs',hlen',bD,XW,XX,XO,show ¬ ((0:Int)>0) by omega,decide_false,cy bs,XY]
   repeat' (first|refine qS ?_ ?_|fail)<;>intro h<;>simp only[h,go_sem,go_sem_proc,XF,aM,h2,h3,h4,h5,hm,hm21,hs',hlen',bD,XW,XX,XO,show ¬ ((0:Int)>0) by omega,decide_false,cy bs,XY]
  ·have hul:l.length≤60:=by
    have:=congrArg XZ hd;rw[X0] at this;omega
   have hgt:decide ((u:Int)>0)=true:=decide_eq_true (by omega);have hap:∀ a:Int,kT 150021 g 1 l.length 8 1 [.dat (.int .i64 a)] (some (g,aA aa l))=_:=fun a=>dm bs gX 150021 g 8 l a rfl (by omega) (by omega)
   have hand:=vL u ⟨by omega,by omega⟩
   have hcv:IntKind.i64.wrap ((u:Int) % 1048576)=(u:Int) % 1048576:=an _ (by omega) (by omega);simp only[go_sem,go_sem_proc,XF,aM,h2,h3,h4,h5,hm,hm21,hgt,hap,hand,hcv,fdivm,show ((20:Int)<0)=False from by simp,if_false,XO,List.cons.injEq]
   repeat' (first|refine qS ?_ ?_|fail)<;>intro h<;>simp only[h,go_sem,go_sem_proc,XF,aM,h2,h3,h4,h5,hm,hm21,hgt,hap,hand,hcv,fdivm,show ((20:Int)<0)=False from by simp,if_false,XO,List.cons.injEq]
   refine⟨(u / 1048576,g+1,l++[(u:Int) % 1048576]),by dsimp only;omega,by dsimp only;omega,by dsimp only;rw[X1,hd,jK hup];rfl,by first | rfl | (dsimp only;rw[kf _ ⟨by omega,by omega⟩];rfl),by simp,by simp [go_sem]⟩
 ·have hw:IntKind.u64.wrap n=(n.natAbs:Int):=by rw[kf _ ⟨by omega,by omega⟩];omega
  simp only[go_sem,go_sem_proc,XF,aM,hpos,hw,decide_false];refine ae [2,3] [150002] (fun ((u,g,l):Nat × Nat × List Int) tm mem=>u≤9223372036854775808∧dg n.natAbs=l++dg u∧tm 4 = .dat (.int .u64 u)∧tm 5 = .ref 150021 g 1 0 l.length∧mem 150021=some (g,aA aa l)) (fun (u,_)=>u) (n.natAbs,0,[]) (by refine⟨by omega,rfl,?_,rfl,rfl⟩;rfl) ?_;intro vs ms hvs hms;simp only[go_sem,go_sem_proc,XF,aM] at hvs hms;subst hvs hms;rintro⟨u,g,l⟩ tm mem hk hm ⟨hu,hd,h4,h5,hm21⟩;simp only[go_sem,go_sem_proc,XF,aM,List.cons.injEq] at hk hm;obtain⟨h2,h3⟩:=hk;rcases Xo u with h0 | hup
  ·subst h0
   rw[fW,XU] at hd;rw[hd] at hs hlen;have hlen':l.length≤1000000:=by omega
   have hs':=hs 1 (fun _=>by exact (XM (by omega)).symm);simp only[go_sem,go_sem_proc,XF,aM,h2,h3,h4,h5,hm,hm21,hs',hlen',bD,XW,XX,XO,show ¬ ((0:Int)>0) by omega,decide_false,cy bs,XY]
   repeat' (first|refine qS ?_ ?_|fail)<;>intro h<;>simp only[h,go_sem,go_sem_proc,XF,aM,h2,h3,h4,h5,hm,hm21,hs',hlen',bD,XW,XX,XO,show ¬ ((0:Int)>0) by omega,decide_false,cy bs,XY]
  ·have hul:l.length≤60:=by
    have:=congrArg XZ hd;rw[X0] at this;omega
   have hgt:decide ((u:Int)>0)=true:=decide_eq_true (by omega);have hap:∀ a:Int,kT 150021 g 1 l.length 8 1 [.dat (.int .i64 a)] (some (g,aA aa l))=_:=fun a=>dm bs gX 150021 g 8 l a rfl (by omega) (by omega)
   have hand:=vL u ⟨by omega,by omega⟩
   have hcv:IntKind.i64.wrap ((u:Int) % 1048576)=(u:Int) % 1048576:=an _ (by omega) (by omega);simp only[go_sem,go_sem_proc,XF,aM,h2,h3,h4,h5,hm,hm21,hgt,hap,hand,hcv,fdivm,show ((20:Int)<0)=False from by simp,if_false,XO,List.cons.injEq]
   repeat' (first|refine qS ?_ ?_|fail)<;>intro h<;>simp only[h,go_sem,go_sem_proc,XF,aM,h2,h3,h4,h5,hm,hm21,hgt,hap,hand,hcv,fdivm,show ((20:Int)<0)=False from by simp,if_false,XO,List.cons.injEq]
   refine⟨(u / 1048576,g+1,l++[(u:Int) % 1048576]),by dsimp only;omega,by dsimp only;omega,by dsimp only;rw[X1,hd,jK hup];rfl,by first | rfl | (dsimp only;rw[kf _ ⟨by omega,by omega⟩];rfl),by simp,by simp [go_sem]⟩
theorem xJ (k:IntKind) (a b:Int):bits .or k a b=bits .or k b a:=by
 simp only[bits,BitVec.or_comm]
theorem Nx (u d:Int) (i:Nat) (hi:(2:Int)^i≤1152921504606846976) (hu:0≤u∧u<2^i) (hd:0≤d) (h:d*2^i<18446744073709551616):bits .or .u64 u (d*2^i)=u+d*2^i:=by
 rw[xJ,Int.add_comm];have h0:0≤d*2^i:=X2 hd (by exact X3 (X4 (by omega)));refine bits_join .u64 64 (by decide) (fun n h1 h2=>kf n ⟨h1,by omega⟩) i _ _ h0 (Int.mul_emod_left _ _) (by omega) hu.1 hu.2 (by omega)
instance (n:Int):Decidable (cn n):=by unfold cn;exact inferInstance
def pQ (a:Raw):Int × Bool:=if aJ a=true∧cn (gG a) then (gG a,true) else (0,false)
noncomputable def tw:List Data→Option PRes:=FF (α:=Int × (List Int)) (fun (s,l)=>([.agg [.int .i64 s,.sl (l.map aa)]]:List Data)) (fun (s,l)=>aI (l.length≤1000000) (.same (.tup [.int .i64 (pQ (s,l)).1,.bool (pQ (s,l)).2])))
theorem xn:∀ a b:Int × (List Int),(fun (s,l)=>([.agg [.int .i64 s,.sl (l.map aa)]]:List Data)) a=(fun (s,l)=>([.agg [.int .i64 s,.sl (l.map aa)]]:List Data)) b→a=b:=by
  rintro⟨s1,l1⟩ ⟨s2,l2⟩ h;simp only[List.cons.injEq,Data.agg.injEq,Data.int.injEq,Data.sl.injEq] at h;exact XE h.1.1.2 (af ai _ _ h.1.2.1)
@[go_sem] theorem MB (s:Int) (l:List Int) (hc:l.length≤1000000):tw [.agg [.int .i64 s,.sl (l.map aa)]]=some (.same (.tup [.int .i64 (pQ (s,l)).1,.bool (pQ (s,l)).2])):=(aX xn (s,l)).trans (al hc _)
theorem J2 (T:Tab) (ak:T ba=mkE d8) (s:Int) (l:List Int) (hc:l.length≤1000000) :
  wp T mf_big_Int.body (bF mf_big_Int.res (.same (.tup [.int .i64 (pQ (s,l)).1,.bool (pQ (s,l)).2]))) ⟨ax [.dat (.agg [.int .i64 s,.sl (l.map aa)])],emp⟩:=by
 refine ap ?_;simp only[mf_big_Int]
 by_cases hr:aJ (s,l)=true
 ·obtain⟨z,hz,e⟩:=(bj _).1 hr
  cases e
  have hi:pQ (z.sign,dg z.natAbs)=if cn z then (z,true) else (0,false):=by
   unfold pQ;rw[hr,show gG (z.sign,dg z.natAbs)=z from aS z];simp
  rw[hi];clear hi;have hs:=cz z
  by_cases h4:(dg z.natAbs).length≤4
  ·have h4':decide (((dg z.natAbs).length:Int)>4)=false:=decide_eq_false (by omega)
   have hvl:=fY z.natAbs;have hD:=eF z.natAbs;generalize dg z.natAbs=l at *;simp only[go_sem,go_sem_proc,XF,ak,hr,hc,h4',XO,aa];refine ae [1,17,18] [159001] (fun ((i,u):Nat × Int) tm mem=>i≤l.length∧u=vl (l.take i)∧u<18446744073709551616∧tm 4 = .dat (.int .u64 u)∧tm 19 = .dat (.int .i64 i)) (fun (i,_)=>l.length-i) (0,0) (by refine⟨by omega,rfl,by omega,rfl,rfl⟩) ?_;intro vs ms hvs hms;simp only[go_sem,go_sem_proc,XF,ak] at hvs hms;subst hvs hms;rintro⟨i,u⟩ tm mem hk hm ⟨hi,hu,hu64,ht4,ht19⟩;simp only[go_sem,go_sem_proc,XF,ak,List.cons.injEq] at hk hm;obtain⟨h1,h17,h18⟩:=hk;have hDt:isD (l.take i):=fun d hd=>hD d (List.mem_of_mem_take hd)
   have hu0:0≤u:=by rw[hu];exact cK hDt
   rcases XT (i<l.length) with hlt | hge
   ·have hx:=List.getElem?_eq_getElem hlt
    have hd:=hD l[i] (List.getElem_mem hlt);have hstep:=be l i hlt;have hub:=pF hDt;rw[List.length_take,Nat.min_eq_left (XJ hlt),←hu] at hub;rw[←hu] at hstep;generalize l[i]=d at *;have hltd:decide ((i:Int)<(l.length:Int))=true:=decide_eq_true (by omega);have hwd:IntKind.u64.wrap d=d:=kf d ⟨hd.1,by omega⟩
    have hw20:IntKind.i64.wrap (20*(i:Int))=((20*i:Nat):Int):=by rw[an _ (by omega) (by omega)];omega
    have hmin:min (20*i) 64=20*i:=by omega
    have hn0:(((20*i:Nat):Int)<0)=False:=eq_false (by omega);have hpow:(1048576:Int)^i=2^(20*i):=by rw[Int.pow_mul];rfl
    rw[hpow] at hub hstep
    have hpl:(2:Int)^(20*i)≤1152921504606846976:=by
     obtain rfl | rfl | rfl | rfl:i=0∨i=1∨i=2∨i=3:=by omega
     all_goals decide
    by_cases hbig:i=3∧d>8
    ·obtain⟨rfl,hd8⟩:=hbig
     have hd8':decide (d>8)=true:=decide_eq_true hd8;have h33:(((3:Nat):Int)==3)=true:=rfl
     have hni:¬ cn z:=by
      have htd:=iV l 4;rw[hvl] at htd;have:0≤vl (l.drop 4):=cK fun d hd=>hD d (List.mem_of_mem_drop hd)
      have h5:=X2 (show (0:Int)≤1048576^(min 4 l.length) from X3 (X4 (by omega))) this;unfold cn;simp only[X5,Nat.reduceAdd,X6] at hstep;rw[hstep] at htd;omega
     rw[if_neg hni];simp only[go_sem,go_sem_proc,XF,ak,h1,h17,h18,ht4,ht19,hm,hx,hd.1,hd.2,hltd,hwd,hd8',h33,XO,X7,List.cons.injEq,aa]
     repeat' (first|refine qS ?_ ?_|fail)<;>intro h<;>simp only[h,go_sem,go_sem_proc,XF,ak,h1,h17,h18,ht4,ht19,hm,hx,hd.1,hd.2,hltd,hwd,hd8',h33,XO,X7,List.cons.injEq,aa]
    ·have hdb:d*2^(20*i)<18446744073709551616:=by
      obtain rfl | rfl | rfl | rfl:i=0∨i=1∨i=2∨i=3:=by omega
      all_goals simp
      all_goals omega
     have hor:=Nx u d (20*i) hpl ⟨hu0,hub⟩ hd.1 hdb;have hdm:0≤d*2^(20*i):=X2 hd.1 (X3 (X4 (by omega)));have hwm:IntKind.u64.wrap (d*2^(20*i))=d*2^(20*i):=kf _ ⟨hdm,hdb⟩
     have hsum:u+d*2^(20*i)<18446744073709551616:=by
      clear hor hwm hdm hw20 hn0 hpow hpl hstep;obtain rfl | rfl | rfl | rfl:i=0∨i=1∨i=2∨i=3:=by omega
      all_goals simp only[X5,X6] at hub hdb ⊢
      all_goals omega
     by_cases h3:((i:Int)==3)=true
     ·have hd8:decide (d>8)=false:=decide_eq_false fun h=>hbig ⟨by simp at h3;omega,h⟩
      simp only[go_sem,go_sem_proc,XF,ak,h1,h17,h18,ht4,ht19,hm,hx,hd.1,hd.2,hltd,hwd,h3,hd8,hw20,hn0,if_false,X8,hmin,hwm,hor,XO,X7,List.cons.injEq,aa]
      repeat' (first|refine qS ?_ ?_|fail)<;>intro h<;>simp only[h,go_sem,go_sem_proc,XF,ak,h1,h17,h18,ht4,ht19,hm,hx,hd.1,hd.2,hltd,hwd,h3,hd8,hw20,hn0,if_false,X8,hmin,hwm,hor,XO,X7,List.cons.injEq,aa]
      exact⟨(i+1,u+d*2^(20*i)),by dsimp only;omega,by dsimp only;omega,by dsimp only;rw[hstep,X9],hsum,rfl,by rw[an _ (by omega) (by omega)];rfl⟩
     ·have h3:((i:Int)==3)=false:=by simpa using h3
      simp only[go_sem,go_sem_proc,XF,ak,h1,h17,h18,ht4,ht19,hm,hx,hd.1,hd.2,hltd,hwd,h3,hw20,hn0,if_false,X8,hmin,hwm,hor,XO,X7,List.cons.injEq,aa]
      repeat' (first|refine qS ?_ ?_|fail)<;>intro h<;>simp only[h,go_sem,go_sem_proc,XF,ak,h1,h17,h18,ht4,ht19,hm,hx,hd.1,hd.2,hltd,hwd,h3,hw20,hn0,if_false,X8,hmin,hwm,hor,XO,X7,List.cons.injEq,aa]
      exact⟨(i+1,u+d*2^(20*i)),by dsimp only;omega,by dsimp only;omega,by dsimp only;rw[hstep,X9],hsum,rfl,by rw[an _ (by omega) (by omega)];rfl⟩
   ·have hltd:decide ((i:Int)<(l.length:Int))=false:=decide_eq_false (by omega)
    have hil:i=l.length:=by omega
    rw[hil,XY,hvl] at hu;rcases hs with ⟨hs,hz0⟩ | ⟨hs,hz0⟩ | ⟨hs,hz0⟩
    ·by_cases hr64:u<9223372036854775808
     ·rw[if_pos (by unfold cn;omega)]
      have hw:IntKind.i64.wrap u=z:=by rw[an u (by omega) (by omega)];omega
      simp only[go_sem,go_sem_proc,XF,ak,h1,h17,h18,ht4,ht19,hm,hltd,hs,hr64,show decide ((1:Int)<0)=false from rfl,show decide ((1:Int)≥0)=true from rfl,show decide ((-1:Int)<0)=true from rfl,show decide ((-1:Int)≥0)=false from rfl,hw,decide_true,decide_false,XO]
      repeat' (first|refine qS ?_ ?_|fail)<;>intro h<;>simp only[h,go_sem,go_sem_proc,XF,ak,h1,h17,h18,ht4,ht19,hm,hltd,hs,hr64,show decide ((1:Int)<0)=false from rfl,show decide ((1:Int)≥0)=true from rfl,show decide ((-1:Int)<0)=true from rfl,show decide ((-1:Int)≥0)=false from rfl,hw,decide_true,decide_false,XO]
     ·rw[if_neg (by unfold cn;omega)]
      simp only[go_sem,go_sem_proc,XF,ak,h1,h17,h18,ht4,ht19,hm,hltd,hs,hr64,show decide ((1:Int)<0)=false from rfl,show decide ((1:Int)≥0)=true from rfl,show decide ((-1:Int)<0)=true from rfl,show decide ((-1:Int)≥0)=false from rfl,decide_true,decide_false,XO]
      repeat' (first|refine qS ?_ ?_|fail)<;>intro h<;>simp only[h,go_sem,go_sem_proc,XF,ak,h1,h17,h18,ht4,ht19,hm,hltd,hs,hr64,show decide ((1:Int)<0)=false from rfl,show decide ((1:Int)≥0)=true from rfl,show decide ((-1:Int)<0)=true from rfl,show decide ((-1:Int)≥0)=false from rfl,decide_true,decide_false,XO]
    ·rw[if_pos (by unfold cn;omega)]
     have hu0':u=0:=by omega
     subst hz0;subst hu0';simp only[go_sem,go_sem_proc,XF,ak,h1,h17,h18,ht4,ht19,hm,hltd,hs,show decide ((0:Int)<0)=false from rfl,show decide ((0:Int)≥0)=true from rfl,show decide ((0:Int)<9223372036854775808)=true from rfl,show IntKind.i64.wrap 0=0 from rfl,show (0:Int).sign=0 from rfl,decide_true,decide_false,XO]
     repeat' (first|refine qS ?_ ?_|fail)<;>intro h<;>simp only[h,go_sem,go_sem_proc,XF,ak,h1,h17,h18,ht4,ht19,hm,hltd,hs,show decide ((0:Int)<0)=false from rfl,show decide ((0:Int)≥0)=true from rfl,show decide ((0:Int)<9223372036854775808)=true from rfl,show IntKind.i64.wrap 0=0 from rfl,show (0:Int).sign=0 from rfl,decide_true,decide_false,XO]
    ·by_cases hr64:u≤9223372036854775808
     ·rw[if_pos (by unfold cn;omega)]
      have hw:=rc (0-u) (by omega) (by omega)
      have hw2:IntKind.i64.wrap (0-u+18446744073709551616)=z:=by
       simp [IntKind.wrap,IntKind.bits,IntKind.signed];omega
      simp only[go_sem,go_sem_proc,XF,ak,h1,h17,h18,ht4,ht19,hm,hltd,hs,hr64,show decide ((1:Int)<0)=false from rfl,show decide ((1:Int)≥0)=true from rfl,show decide ((-1:Int)<0)=true from rfl,show decide ((-1:Int)≥0)=false from rfl,hw,hw2,decide_true,decide_false,XO]
      repeat' (first|refine qS ?_ ?_|fail)<;>intro h<;>simp only[h,go_sem,go_sem_proc,XF,ak,h1,h17,h18,ht4,ht19,hm,hltd,hs,hr64,show decide ((1:Int)<0)=false from rfl,show decide ((1:Int)≥0)=true from rfl,show decide ((-1:Int)<0)=true from rfl,show decide ((-1:Int)≥0)=false from rfl,hw,hw2,decide_true,decide_false,XO]
     ·rw[if_neg (by unfold cn;omega)]
      simp only[go_sem,go_sem_proc,XF,ak,h1,h17,h18,ht4,ht19,hm,hltd,hs,hr64,show decide ((1:Int)<0)=false from rfl,show decide ((1:Int)≥0)=true from rfl,show decide ((-1:Int)<0)=true from rfl,show decide ((-1:Int)≥0)=false from rfl,decide_true,decide_false,XO]
      repeat' (first|refine qS ?_ ?_|fail)<;>intro h<;>simp only[h,go_sem,go_sem_proc,XF,ak,h1,h17,h18,ht4,ht19,hm,hltd,hs,hr64,show decide ((1:Int)<0)=false from rfl,show decide ((1:Int)≥0)=true from rfl,show decide ((-1:Int)<0)=true from rfl,show decide ((-1:Int)≥0)=false from rfl,decide_true,decide_false,XO]
  ·have h4':decide (((dg z.natAbs).length:Int)>4)=true:=decide_eq_true (by omega)
   have hn:¬ cn z:=by
    intro h;unfold cn at h;refine h4 (dg_len.2 ?_);omega
   rw[if_neg hn];simp only[go_sem,go_sem_proc,XF,ak,hr,hc,h4',XO]
   repeat' (first|refine qS ?_ ?_|fail)<;>intro h<;>simp only[h,go_sem,go_sem_proc,XF,ak,hr,hc,h4',XO]
 ·have hr:aJ (s,l)=false:=by simpa using hr
  have hi:pQ (s,l)=(0,false):=by unfold pQ;rw[if_neg];rw[hr];simp
  rw[hi];simp only[go_sem,go_sem_proc,XF,ak,hr,hc]
  repeat' (first|refine qS ?_ ?_|fail)<;>intro h<;>simp only[h,go_sem,go_sem_proc,XF,ak,hr,hc]
def mf_frac_Right:MFunc :=
 { n:=35,np:=1,res:=[.t 2],body :=
 (.seq (.ops [
 Zk 1 116001 0,Zb 2 false])
 (.seq (.seq (.ops [
 Zf 5 0 1,Zu 6 2 5,⟨some 7,none,.call ba [(.t 6)]⟩,Zt 8 7,Zv 9 8,⟨some 10,some (9,false),.fad 2 (.t 1)⟩,⟨some 11,some (9,false),.load 2 true (.t 10)⟩,⟨some 12,some (9,false),.call ba [(.t 11)]⟩,⟨some 13,some (9,false),.un .not (.t 12)⟩,Zp 14 9 13,Zv 15 14,⟨some 16,some (15,false),.fad 2 (.t 1)⟩,⟨some 17,some (15,false),.fad 0 (.t 16)⟩,⟨some 18,some (15,false),.load 1 false (.t 17)⟩,⟨some 19,some (15,false),.bin .neq (.t 18) (.c (ZI 1))⟩,Zp 20 15 19])
 (.cond (.t 20)
 (.seq (.ops [
 Zb 2 false])
 .ret)
 .skip))
 (.seq (.ops [
 Zf 22 0 1,Zu 23 2 22,Zf 24 2 1,Zu 25 2 24,⟨some 26,none,.call kO [(.t 23),(.t 25)]⟩,Zv 21 26,Zx 27 0 21,Zx 28 1 21,⟨some 3,none,.alloc 116003 [(ZI 0),.nil]⟩,Zs 2 3 27,Zv 4 28])
 (.seq (.ops [
 Zv 29 4,Zc 30 .eql 29 0,Zv 31 30,⟨some 32,some (31,true),.load 2 true (.t 3)⟩,⟨some 33,some (31,true),.call n7 [(.t 32)]⟩,Zq 34 31 33,Zv 2 34])
 .ret)))) }
def mf_frac_Add:MFunc :=
 { n:=46,np:=2,res:=[.cell 4 4 true,.t 5],body :=
 (.seq (.ops [
 Zk 2 119002 0,Zk 3 119003 1,⟨some 4,none,.alloc 119004 [(ZI 0),.nil,(ZI 0),.nil]⟩,Zi 5 0])
 (.seq (.seq (.ops [
 Zu 10 4 2,⟨some 11,none,.call aW [(.t 10)]⟩,Zt 12 11,Zv 13 12,⟨some 14,some (13,false),.load 4 true (.t 3)⟩,⟨some 15,some (13,false),.call aW [(.t 14)]⟩,⟨some 16,some (13,false),.un .not (.t 15)⟩,Zp 17 13 16])
 (.cond (.t 17)
 (.seq (.ops [
 ⟨some 18,none,.build [(ZI 0),.nil,(ZI 0),.nil] []⟩,Zs 4 4 18,Zi 5 1])
 .ret)
 .skip))
 (.seq (.ops [
 Zf 20 0 2,Zu 21 2 20,Zf 22 2 3,Zu 23 2 22,Zf 24 0 3,Zu 25 2 24,Zf 26 2 2,Zu 27 2 26,⟨some 28,none,.call nR [(.t 21),(.t 23),(.t 25),(.t 27)]⟩,Zv 19 28,Zx 29 0 19,Zx 30 1 19,⟨some 6,none,.alloc 119006 [(ZI 0),.nil]⟩,Zs 2 6 29,Zv 7 30])
 (.seq (.ops [
 Zf 32 2 2,Zu 33 2 32,Zf 34 2 3,Zu 35 2 34,⟨some 36,none,.call dH [(.t 33),(.t 35)]⟩,Zv 31 36,Zx 37 0 31,Zx 38 1 31,⟨some 8,none,.alloc 119008 [(ZI 0),.nil]⟩,Zs 2 8 37,Zv 9 38])
 (.seq (.ops [
 Zu 39 2 6,Zv 40 7,Zu 41 2 8,Zv 42 9,⟨some 43,none,.call dt [(.t 39),(.t 40),(.t 41),(.t 42)]⟩,Zx 44 0 43,Zx 45 1 43,Zs 4 4 44,Zv 5 45])
 .ret))))) }
def mf_frac_Of:MFunc :=
 { n:=13,np:=2,res:=[.cell 4 4 true,.t 5],body :=
 (.seq (.ops [
 ⟨some 4,none,.alloc 130004 [(ZI 0),.nil,(ZI 0),.nil]⟩,Zi 5 0])
 (.seq (.ops [
 Zv 6 0,⟨some 7,none,.call oy [(.t 6)]⟩,Zv 8 1,⟨some 9,none,.call oy [(.t 8)]⟩,⟨some 10,none,.call jF [(.t 7),(.t 9)]⟩,Zx 11 0 10,Zx 12 1 10,Zs 4 4 11,Zv 5 12])
 .ret)) }
def mf_frac_Sub:MFunc :=
 { n:=25,np:=2,res:=[.cell 4 4 true,.t 5],body :=
 (.seq (.ops [
 Zk 2 132002 0,Zk 3 132003 1,⟨some 4,none,.alloc 132004 [(ZI 0),.nil,(ZI 0),.nil]⟩,Zi 5 0])
 (.seq (.seq (.ops [
 Zu 6 4 2,⟨some 7,none,.call aW [(.t 6)]⟩,Zt 8 7,Zv 9 8,⟨some 10,some (9,false),.load 4 true (.t 3)⟩,⟨some 11,some (9,false),.call aW [(.t 10)]⟩,⟨some 12,some (9,false),.un .not (.t 11)⟩,Zp 13 9 12])
 (.cond (.t 13)
 (.seq (.ops [
 ⟨some 14,none,.build [(ZI 0),.nil,(ZI 0),.nil] []⟩,Zs 4 4 14,Zi 5 1])
 .ret)
 .skip))
 (.seq (.opsD [
 Zu 15 4 2,Zf 16 0 3,Zu 17 2 16,⟨some 18,none,.call jb [(.t 17)]⟩,Zf 19 2 3,Zu 20 2 19,⟨some 21,none,.build [(ZI 0),.nil,(ZI 0),.nil] [(0,2,(.t 18)),(2,2,(.t 20))]⟩,⟨some 22,none,.call dR [(.t 15),(.t 21)]⟩,Zx 23 0 22,Zx 24 1 22,Zs 4 4 23,Zv 5 24] [[],[],[],[],[],[],[],[],[],[],[],[]])
 .ret))) }
def mf_frac_Mul:MFunc :=
 { n:=42,np:=2,res:=[.cell 4 4 true,.t 5],body :=
 (.seq (.ops [
 Zk 2 134002 0,Zk 3 134003 1,⟨some 4,none,.alloc 134004 [(ZI 0),.nil,(ZI 0),.nil]⟩,Zi 5 0])
 (.seq (.seq (.ops [
 Zu 10 4 2,⟨some 11,none,.call aW [(.t 10)]⟩,Zt 12 11,Zv 13 12,⟨some 14,some (13,false),.load 4 true (.t 3)⟩,⟨some 15,some (13,false),.call aW [(.t 14)]⟩,⟨some 16,some (13,false),.un .not (.t 15)⟩,Zp 17 13 16])
 (.cond (.t 17)
 (.seq (.ops [
 ⟨some 18,none,.build [(ZI 0),.nil,(ZI 0),.nil] []⟩,Zs 4 4 18,Zi 5 1])
 .ret)
 .skip))
 (.seq (.ops [
 Zf 20 0 2,Zu 21 2 20,Zf 22 0 3,Zu 23 2 22,⟨some 24,none,.call dH [(.t 21),(.t 23)]⟩,Zv 19 24,Zx 25 0 19,Zx 26 1 19,⟨some 6,none,.alloc 134006 [(ZI 0),.nil]⟩,Zs 2 6 25,Zv 7 26])
 (.seq (.ops [
 Zf 28 2 2,Zu 29 2 28,Zf 30 2 3,Zu 31 2 30,⟨some 32,none,.call dH [(.t 29),(.t 31)]⟩,Zv 27 32,Zx 33 0 27,Zx 34 1 27,⟨some 8,none,.alloc 134008 [(ZI 0),.nil]⟩,Zs 2 8 33,Zv 9 34])
 (.seq (.ops [
 Zu 35 2 6,Zv 36 7,Zu 37 2 8,Zv 38 9,⟨some 39,none,.call dt [(.t 35),(.t 36),(.t 37),(.t 38)]⟩,Zx 40 0 39,Zx 41 1 39,Zs 4 4 40,Zv 5 41])
 .ret))))) }
def mf_frac_Compare:MFunc :=
 { n:=78,np:=2,res:=[.t 4],body :=
 (.seq (.ops [
 Zk 2 135002 0,Zk 3 135003 1,Zi 4 0])
 (.seq (.seq (.ops [
 Zu 17 4 2,⟨some 18,none,.call aW [(.t 17)]⟩,Zt 19 18,Zv 20 19,⟨some 21,some (20,false),.load 4 true (.t 3)⟩,⟨some 22,some (20,false),.call aW [(.t 21)]⟩,⟨some 23,some (20,false),.un .not (.t 22)⟩,Zp 24 20 23])
 (.cond (.t 24)
 (.seq (.ops [
 Zi 4 0])
 .ret)
 .skip))
 (.seq (.opsD [
 Zf 25 0 2,Zu 26 2 25,Zf 27 2 2,Zu 28 2 27,Zf 29 0 3,Zu 30 2 29,Zf 31 2 3,Zu 32 2 31,⟨some 5,none,.alloc 135005 [(ZI 0),.nil]⟩,⟨some 6,none,.alloc 135006 [(ZI 0),.nil]⟩,⟨some 7,none,.alloc 135007 [(ZI 0),.nil]⟩,⟨some 8,none,.alloc 135008 [(ZI 0),.nil]⟩,Zs 2 5 26,Zs 2 6 28,Zs 2 7 30,Zs 2 8 32] [[],[],[],[],[],[],[],[],[1,3,5,7],[1,3,5,7,8],[1,3,5,7,8,9],[1,3,5,7,8,9,10],[3,5,7],[5,7],[7],[]])
 (.seq (.ops [
 Zi 9 1])
 (.block 0
 (.loop
 (.seq (.block 1
 (.seq (.ops [
 Zu 36 2 5,Zu 37 2 6,⟨some 38,none,.call ip [(.t 36),(.t 37)]⟩,Zv 35 38,Zx 39 0 35,Zx 40 1 35,Zx 41 2 35,⟨some 10,none,.alloc 135010 [(ZI 0),.nil]⟩,⟨some 11,none,.alloc 135011 [(ZI 0),.nil]⟩,Zs 2 10 39,Zs 2 11 40,Zv 12 41])
 (.seq (.ops [
 Zu 43 2 7,Zu 44 2 8,⟨some 45,none,.call ip [(.t 43),(.t 44)]⟩,Zv 42 45,Zx 46 0 42,Zx 47 1 42,Zx 48 2 42,⟨some 13,none,.alloc 135013 [(ZI 0),.nil]⟩,⟨some 14,none,.alloc 135014 [(ZI 0),.nil]⟩,Zs 2 13 46,Zs 2 14 47,Zv 15 48])
 (.seq (.seq (.ops [
 Zu 49 2 10,Zu 50 2 13,⟨some 51,none,.call kB [(.t 49),(.t 50)]⟩,Zv 16 51])
 (.block 2
 (.seq (.ops [
 Zv 53 16,Zc 54 .neq 53 0,Zv 52 54])
 (.cond (.t 52)
 (.seq (.ops [
 Zv 55 9,Zv 56 16,Zo 57 .mul 55 56,Zv 4 57])
 .ret)
 (.seq (.ops [
 Zf 59 0 11,Zl 60 1 59,Zc 61 .eql 60 0,Zv 62 61,⟨some 63,some (62,false),.fad 0 (.t 14)⟩,⟨some 64,some (62,false),.load 1 false (.t 63)⟩,⟨some 65,some (62,false),.bin .eql (.t 64) (.c (ZI 0))⟩,Zp 66 62 65,Zv 58 66])
 (.cond (.t 58)
 (.seq (.ops [
 Zv 67 9,Zf 68 0 11,Zl 69 1 68,Zf 70 0 14,Zl 71 1 70,Zo 72 .sub 69 71,Zo 73 .mul 67 72,Zv 4 73])
 .ret)
 .skip))))))
 (.opsD [
 Zu 74 2 6,Zu 75 2 11,Zu 76 2 8,Zu 77 2 14,Zs 2 5 74,Zs 2 6 75,Zs 2 7 76,Zs 2 8 77] [[],[],[],[],[1,2,3],[2,3],[3],[]])))))
 (.ops [
 Zv 33 9,⟨some 34,none,.un .neg (.t 33)⟩,Zv 9 34])))))))) }
def mf_frac_one:MFunc :=
 { n:=15,np:=1,res:=[.t 2],body :=
 (.seq (.ops [
 Zk 1 138001 0,Zb 2 false])
 (.seq (.ops [
 Zu 6 2 1,⟨some 7,none,.call o9 [(.t 6)]⟩,Zv 5 7,Zx 8 0 5,Zx 9 1 5,Zv 3 8,Zv 4 9])
 (.seq (.ops [
 Zv 10 4,Zv 11 10,⟨some 12,some (11,true),.mv (.t 3)⟩,⟨some 13,some (11,true),.bin .eql (.t 12) (.c (ZI 1))⟩,Zq 14 11 13,Zv 2 14])
 .ret))) }
def mf_frac_sum:MFunc :=
 { n:=38,np:=4,res:=[.cell 8 2 true,.t 9],body :=
 (.seq (.ops [
 Zk 4 139004 0,Zk 5 139005 1,Zk 6 139006 2,Zk 7 139007 3,⟨some 8,none,.alloc 139008 [(ZI 0),.nil]⟩,Zi 9 0])
 (.seq (.ops [
 Zu 14 2 4,Zu 15 2 5,⟨some 16,none,.call dH [(.t 14),(.t 15)]⟩,Zv 13 16,Zx 17 0 13,Zx 18 1 13,⟨some 10,none,.alloc 139010 [(ZI 0),.nil]⟩,Zs 2 10 17,Zv 11 18])
 (.seq (.seq (.ops [
 Zv 19 11,Zc 20 .neq 19 0])
 (.cond (.t 20)
 (.seq (.ops [
 ⟨some 21,none,.build [(ZI 0),.nil] []⟩,Zv 22 11,Zs 2 8 21,Zv 9 22])
 .ret)
 .skip))
 (.seq (.ops [
 Zu 24 2 6,Zu 25 2 7,⟨some 26,none,.call dH [(.t 24),(.t 25)]⟩,Zv 23 26,Zx 27 0 23,Zx 28 1 23,⟨some 12,none,.alloc 139012 [(ZI 0),.nil]⟩,Zs 2 12 27,Zv 11 28])
 (.seq (.seq (.ops [
 Zv 29 11,Zc 30 .neq 29 0])
 (.cond (.t 30)
 (.seq (.ops [
 ⟨some 31,none,.build [(ZI 0),.nil] []⟩,Zv 32 11,Zs 2 8 31,Zv 9 32])
 .ret)
 .skip))
 (.seq (.ops [
 Zu 33 2 10,Zu 34 2 12,⟨some 35,none,.call pr [(.t 33),(.t 34)]⟩,Zx 36 0 35,Zx 37 1 35,Zs 2 8 36,Zv 9 37])
 .ret)))))) }
def mf_frac_quotient:MFunc :=
 { n:=22,np:=4,res:=[.cell 8 4 true,.t 9],body :=
 (.seq (.ops [
 Zk 4 141004 0,Zk 6 141006 2,⟨some 8,none,.alloc 141008 [(ZI 0),.nil,(ZI 0),.nil]⟩,Zi 9 0])
 (.seq (.seq (.ops [
 Zv 10 1,Zc 11 .neq 10 0,Zv 12 11,⟨some 13,some (12,false),.mv (.t 3)⟩,⟨some 14,some (12,false),.bin .neq (.t 13) (.c (ZI 0))⟩,Zp 15 12 14])
 (.cond (.t 15)
 (.seq (.ops [
 ⟨some 16,none,.build [(ZI 0),.nil,(ZI 0),.nil] []⟩,Zs 4 8 16,Zi 9 6])
 .ret)
 .skip))
 (.seq (.ops [
 Zu 17 2 4,Zu 18 2 6,⟨some 19,none,.call jF [(.t 17),(.t 18)]⟩,Zx 20 0 19,Zx 21 1 19,Zs 4 8 20,Zv 9 21])
 .ret))) }
def mf_frac_New:MFunc :=
 { n:=60,np:=2,res:=[.cell 4 4 true,.t 5],body :=
 (.seq (.ops [
 Zk 2 149002 0,Zk 3 149003 1,⟨some 4,none,.alloc 149004 [(ZI 0),.nil,(ZI 0),.nil]⟩,Zi 5 0])
 (.seq (.block 0
 (.seq (.ops [
 Zu 15 2 2,⟨some 16,none,.call ba [(.t 15)]⟩,Zt 17 16,Zv 18 17,⟨some 19,some (18,false),.load 2 true (.t 3)⟩,⟨some 20,some (18,false),.call ba [(.t 19)]⟩,⟨some 21,some (18,false),.un .not (.t 20)⟩,Zp 22 18 21,Zv 14 22])
 (.cond (.t 14)
 (.seq (.ops [
 ⟨some 23,none,.build [(ZI 0),.nil,(ZI 0),.nil] []⟩,Zs 4 4 23,Zi 5 1])
 .ret)
 (.seq (.ops [
 Zf 25 0 3,Zl 26 1 25,Zc 27 .eql 26 0,Zv 24 27])
 (.cond (.t 24)
 (.seq (.ops [
 ⟨some 28,none,.build [(ZI 0),.nil,(ZI 0),.nil] []⟩,Zs 4 4 28,Zi 5 15])
 .ret)
 (.seq (.ops [
 Zf 30 0 3,Zl 31 1 30,Zc 32 .lss 31 0,Zv 29 32])
 (.cond (.t 29)
 (.opsD [
 Zu 33 2 2,⟨some 34,none,.call jb [(.t 33)]⟩,Zu 35 2 3,⟨some 36,none,.call jb [(.t 35)]⟩,Zs 2 2 34,Zs 2 3 36] [[],[],[],[],[],[]])
 .skip)))))))
 (.seq (.ops [
 Zu 38 2 2,Zu 39 2 3,⟨some 40,none,.call kO [(.t 38),(.t 39)]⟩,Zv 37 40,Zx 41 0 37,Zx 42 1 37,⟨some 6,none,.alloc 149006 [(ZI 0),.nil]⟩,Zs 2 6 41,Zv 7 42])
 (.seq (.ops [
 Zu 44 2 2,Zu 45 2 6,⟨some 46,none,.call ip [(.t 44),(.t 45)]⟩,Zv 43 46,Zx 47 0 43,Zx 48 1 43,Zx 49 2 43,⟨some 8,none,.alloc 149008 [(ZI 0),.nil]⟩,⟨some 9,none,.alloc 149009 [(ZI 0),.nil]⟩,Zs 2 8 47,Zs 2 9 48,Zv 10 49])
 (.seq (.ops [
 Zu 51 2 3,Zu 52 2 6,⟨some 53,none,.call ip [(.t 51),(.t 52)]⟩,Zv 50 53,Zx 54 0 50,Zx 55 1 50,Zx 56 2 50,⟨some 11,none,.alloc 149011 [(ZI 0),.nil]⟩,⟨some 12,none,.alloc 149012 [(ZI 0),.nil]⟩,Zs 2 11 54,Zs 2 12 55,Zv 13 56])
 (.seq (.ops [
 Zu 57 2 8,Zu 58 2 11,⟨some 59,none,.build [(ZI 0),.nil,(ZI 0),.nil] [(0,2,(.t 57)),(2,2,(.t 58))]⟩,Zs 4 4 59,Zi 5 0])
 .ret)))))) }
def mf_frac_Div:MFunc :=
 { n:=49,np:=2,res:=[.cell 4 4 true,.t 5],body :=
 (.seq (.ops [
 Zk 2 169002 0,Zk 3 169003 1,⟨some 4,none,.alloc 169004 [(ZI 0),.nil,(ZI 0),.nil]⟩,Zi 5 0])
 (.seq (.block 0
 (.seq (.ops [
 Zu 11 4 2,⟨some 12,none,.call aW [(.t 11)]⟩,Zt 13 12,Zv 14 13,⟨some 15,some (14,false),.load 4 true (.t 3)⟩,⟨some 16,some (14,false),.call aW [(.t 15)]⟩,⟨some 17,some (14,false),.un .not (.t 16)⟩,Zp 18 14 17,Zv 10 18])
 (.cond (.t 10)
 (.seq (.ops [
 ⟨some 19,none,.build [(ZI 0),.nil,(ZI 0),.nil] []⟩,Zs 4 4 19,Zi 5 1])
 .ret)
 (.seq (.ops [
 Zf 21 0 3,Zf 22 0 21,Zl 23 1 22,Zc 24 .eql 23 0,Zv 20 24])
 (.cond (.t 20)
 (.seq (.ops [
 ⟨some 25,none,.build [(ZI 0),.nil,(ZI 0),.nil] []⟩,Zs 4 4 25,Zi 5 15])
 .ret)
 .skip)))))
 (.seq (.ops [
 Zf 27 0 2,Zu 28 2 27,Zf 29 2 3,Zu 30 2 29,⟨some 31,none,.call dH [(.t 28),(.t 30)]⟩,Zv 26 31,Zx 32 0 26,Zx 33 1 26,⟨some 6,none,.alloc 169006 [(ZI 0),.nil]⟩,Zs 2 6 32,Zv 7 33])
 (.seq (.ops [
 Zf 35 2 2,Zu 36 2 35,Zf 37 0 3,Zu 38 2 37,⟨some 39,none,.call dH [(.t 36),(.t 38)]⟩,Zv 34 39,Zx 40 0 34,Zx 41 1 34,⟨some 8,none,.alloc 169008 [(ZI 0),.nil]⟩,Zs 2 8 40,Zv 9 41])
 (.seq (.ops [
 Zu 42 2 6,Zv 43 7,Zu 44 2 8,Zv 45 9,⟨some 46,none,.call dt [(.t 42),(.t 43),(.t 44),(.t 45)]⟩,Zx 47 0 46,Zx 48 1 46,Zs 4 4 47,Zv 5 48])
 .ret))))) }
abbrev aF:=Raw × Raw
def ad (f:aF):List Data:=[.int .i64 f.1.1,.sl (f.1.2.map aa),.int .i64 f.2.1,.sl (f.2.2.map aa)]
def bw (x:aF × Int):Data:=.tup [.agg (ad x.1),.int .i64 x.2]
def aj (x:Rat):aF:=(aR x.num,aR x.den)
def cg (x:Rat):Prop:=x.num.natAbs<LIM∧x.den<LIM
def bV:aF:=((0,[]),(0,[]))
def bc (f:aF):Bool:=aJ f.1&&(aJ f.2&&(f.2.1==1&&(Ya (gG f.1).natAbs (gG f.2).natAbs==1)))
def ls (f:aF):Rat:=Yb (gG f.1) (gG f.2)
theorem kE (x:Rat):ls (aj x)=x:=by
 unfold ls aj;rw[aS,aS,Yc]
theorem Bm {x y:Rat} (h:aj x=aj y):x=y:=by rw[←kE x,h,kE]
theorem den_pos (x:Rat):0<(x.den:Int):=Int.natCast_pos.2 x.den_pos
theorem HY {n:Int} (h:0<n):(aR n).1=1:=XM h
theorem kt (f:aF):bc f=true↔∃ x,cg x∧f=aj x:=by
 unfold bc;simp only[Yd,beq_iff_eq]
 constructor
 ·rintro⟨h1,h2,h3,h4⟩
  obtain⟨p,hp,e1⟩:=(bj _).1 h1;obtain⟨q,hq,e2⟩:=(bj _).1 h2;obtain⟨f1,f2⟩:=f;simp only at e1 e2 h3 h4;subst e1 e2;rw[aS,aS] at h4
  have hqp:0<q:=by
   rcases cz q with ⟨_,h⟩ | ⟨e,_⟩ | ⟨e,_⟩
   ·exact h
   ·have:q.sign=1:=h3;omega
   ·have:q.sign=1:=h3;omega
  refine⟨⟨p,q.natAbs,by omega,h4⟩,⟨hp,hq⟩,?_⟩
  unfold aj;rw[show ((q.natAbs:Nat):Int)=q by omega]
 ·rintro⟨x,⟨h1,h2⟩,rfl⟩
  have hd:(x.den:Int).natAbs<LIM:=by rw[XD];exact h2
  refine⟨bI h1,bI hd,HY (den_pos x),?_⟩;unfold aj;rw[aS,aS,XD];exact x.reduced
theorem eU {x:Rat} (h:cg x):bc (aj x)=true:=(kt _).2 ⟨x,h,rfl⟩
theorem vg {x:Rat} (h:cg x):(x.den:Int).natAbs<LIM:=by rw[XD];exact h.2
theorem eT {z:Int} (h:z.natAbs<LIM):(dg z.natAbs).length≤1000000:=by have:=fI h;omega
def Cp (a:Raw):Bool:=(pQ a).2&&((pQ a).1==1)
theorem IN {z:Int} (h:z.natAbs<LIM):Cp (aR z)=decide (z=1):=by
 unfold Cp pQ;rw[bI h,aS]
 by_cases hi:cn z
 ·rw[if_pos ⟨rfl,hi⟩]
  simp only[Ye]
  rfl
 ·rw[if_neg fun h=>hi h.2]
  have:z≠1:=by rintro rfl;exact hi (by unfold cn;omega)
  simp [this]
noncomputable def B8:List Data→Option PRes:=FF (α:=Int × (List Int)) (fun (s,l)=>([.agg [.int .i64 s,.sl (l.map aa)]]:List Data)) (fun (s,l)=>aI (l.length≤1000000) (.same (.bool (Cp (s,l)))))
theorem Dr:∀ a b:Int × (List Int),(fun (s,l)=>([.agg [.int .i64 s,.sl (l.map aa)]]:List Data)) a=(fun (s,l)=>([.agg [.int .i64 s,.sl (l.map aa)]]:List Data)) b→a=b:=by
  rintro⟨s1,l1⟩ ⟨s2,l2⟩ h;simp only[List.cons.injEq,Data.agg.injEq,Data.int.injEq,Data.sl.injEq] at h;exact XE h.1.1.2 (af ai _ _ h.1.2.1)
@[go_sem] theorem Pr (s:Int) (l:List Int) (hc:l.length≤1000000):B8 [.agg [.int .i64 s,.sl (l.map aa)]]=some (.same (.bool (Cp (s,l)))):=(aX Dr (s,l)).trans (al hc _)
theorem Nm (T:Tab) (p9:T o9=mkE tw) (s:Int) (l:List Int) (hc:l.length≤1000000) :
  wp T mf_frac_one.body (bF mf_frac_one.res (.same (.bool (Cp (s,l))))) ⟨ax [.dat (.agg [.int .i64 s,.sl (l.map aa)])],emp⟩:=by
 refine ap ?_;simp only[mf_frac_one];unfold Cp;rcases h:(pQ (s,l)).2
 ·simp only[go_sem,go_sem_proc,XF,p9,hc,h]
  repeat' (first|refine qS ?_ ?_|fail)<;>intro h<;>simp only[h,go_sem,go_sem_proc,XF,p9,hc,h]
 ·simp only[go_sem,go_sem_proc,XF,p9,hc,h]
  repeat' (first|refine qS ?_ ?_|fail)<;>intro h<;>simp only[h,go_sem,go_sem_proc,XF,p9,hc,h]
noncomputable def fN:List Data→Option PRes:=FF (α:=Int × (List Int) × Int × (List Int)) (fun (s,l,s2,l2)=>([.agg [.int .i64 s,.sl (l.map aa),.int .i64 s2,.sl (l2.map aa)]]:List Data)) (fun (s,l,s2,l2)=>aI (l.length≤1000000∧l2.length≤1000000) (.same (.bool (bc ((s,l),(s2,l2))))))
theorem yc:∀ a b:Int × (List Int) × Int × (List Int),(fun (s,l,s2,l2)=>([.agg [.int .i64 s,.sl (l.map aa),.int .i64 s2,.sl (l2.map aa)]]:List Data)) a=(fun (s,l,s2,l2)=>([.agg [.int .i64 s,.sl (l.map aa),.int .i64 s2,.sl (l2.map aa)]]:List Data)) b→a=b:=by
  rintro⟨s1,l1,s21,l21⟩ ⟨s2,l2,s22,l22⟩ h;simp only[List.cons.injEq,Data.agg.injEq,Data.int.injEq,Data.sl.injEq] at h;exact XE h.1.1.2 (XE (af ai _ _ h.1.2.1) (XE h.1.2.2.1.2 (af ai _ _ h.1.2.2.2.1)))
@[go_sem] theorem BF (s:Int) (l:List Int) (s2:Int) (l2:List Int) (hc:l.length≤1000000∧l2.length≤1000000):fN [.agg [.int .i64 s,.sl (l.map aa),.int .i64 s2,.sl (l2.map aa)]]=some (.same (.bool (bc ((s,l),(s2,l2))))):=(aX yc (s,l,s2,l2)).trans (al hc _)
theorem IO (T:Tab) (ak:T ba=mkE d8) (o0:T kO=mkE Ec) (yr:T n7=mkE B8) (s:Int) (l:List Int) (s2:Int) (l2:List Int) (hc:l.length≤1000000∧l2.length≤1000000) :
  wp T mf_frac_Right.body (bF mf_frac_Right.res (.same (.bool (bc ((s,l),(s2,l2)))))) ⟨ax [.dat (.agg [.int .i64 s,.sl (l.map aa),.int .i64 s2,.sl (l2.map aa)])],emp⟩:=by
 refine ap ?_;simp only[mf_frac_Right];obtain⟨hl1,hl2⟩:=hc
 by_cases hr:aJ (s,l)=true
 ·by_cases hr2:aJ (s2,l2)=true
  ·by_cases hs:s2=1
   ·obtain⟨x,hx,e⟩:=(bj _).1 hr
    obtain⟨y,hy,e2⟩:=(bj _).1 hr2
    have hg:kd (s,l) (s2,l2)=(aR ((Ya x.natAbs y.natAbs:Nat):Int),0):=by
     unfold kd;rw[hr,hr2,e,e2,aS,aS];rfl
    have hgl:=qJ hx hy
    have ho:Cp (aR ((Ya x.natAbs y.natAbs:Nat):Int))=(Ya x.natAbs y.natAbs==1):=by
     rw[IN (by rw[XD];exact hgl)];rw[Bool.eq_iff_iff];simp;omega
    have hv1:gG (s,l)=x:=by rw[e,aS]
    have hv2:gG (s2,l2)=y:=by rw[e2,aS]
    have hR:bc ((s,l),(s2,l2))=(Ya x.natAbs y.natAbs==1):=by
     show (aJ (s,l)&&(aJ (s2,l2)&&((s2==1)&&(Ya (gG (s,l)).natAbs (gG (s2,l2)).natAbs==1))))=_;rw[hr,hr2,hv1,hv2,show (s2==1)=true by simpa using hs]
     simp only[Ye]
    have hgl2:((aR ((Ya x.natAbs y.natAbs:Nat):Int)).2).length≤1000000:=eT (by rw[XD];exact hgl);rw[hR,←ho];generalize aR ((Ya x.natAbs y.natAbs:Nat):Int)=G at *;obtain⟨g1,g2⟩:=G;have hs':(s2==1)=true:=by simpa using hs
    refine qI ?_
    repeat' (intro h<;>simp only[h,go_sem,go_sem_proc,XF,ak,o0,yr,hr,hr2,hl1,hl2,hs',hg,hgl2,dM,bD,show ((0:Int)==0)=true from rfl]<;>try refine qS ?_ ?_)
   ·have hR:bc ((s,l),(s2,l2))=false:=by unfold bc;simp [hs]
    have hs':(s2==1)=false:=by simpa using hs
    rw[hR];refine qI ?_
    repeat' (intro h<;>simp only[h,go_sem,go_sem_proc,XF,ak,o0,yr,hr,hr2,hl1,hl2,hs']<;>try refine qS ?_ ?_)
  ·have hr2:aJ (s2,l2)=false:=by simpa using hr2
   have hR:bc ((s,l),(s2,l2))=false:=by unfold bc;simp [hr2]
   rw[hR];refine qI ?_
   repeat' (intro h<;>simp only[h,go_sem,go_sem_proc,XF,ak,o0,yr,hr,hr2,hl1,hl2]<;>try refine qS ?_ ?_)
 ·have hr:aJ (s,l)=false:=by simpa using hr
  have hR:bc ((s,l),(s2,l2))=false:=by unfold bc;simp [hr]
  rw[hR];refine qI ?_
  repeat' (intro h<;>simp only[h,go_sem,go_sem_proc,XF,ak,o0,yr,hr,hl1,hl2]<;>try refine qS ?_ ?_)
def fM (p q:Raw):aF × Int :=
 if (aJ p&&aJ q)=true then (if gG q=0 then (bV,15) else (aj (Yb (gG p) (gG q)),0)) else (bV,1)
theorem iN {p q:Int} (hp:p.natAbs<LIM) (hq:q.natAbs<LIM) (h0:q≠0):fM (aR p) (aR q)=(aj (Yb p q),0):=by
 unfold fM;rw[bI hp,bI hq,aS,aS,if_pos (by rfl),if_neg h0]
theorem mQ {p q:Int} (hq:0<q):(Yb p q).num=p.fdiv ((Ya p.natAbs q.natAbs:Nat):Int)∧((Yb p q).den:Int)=q.fdiv ((Ya p.natAbs q.natAbs:Nat):Int):=by
 rw[Rat.num_divInt,Rat.den_divInt,if_neg (by omega),XM hq,Xv];have hg:q.gcd p=Ya p.natAbs q.natAbs:=by rw[Int.gcd_comm];rfl
 rw[hg];have h0:(0:Int)≤((Ya p.natAbs q.natAbs:Nat):Int):=Int.natCast_nonneg _;rw[Yf _ h0,Yf _ h0];refine⟨rfl,?_⟩;rw[Int.natCast_ediv]
 congr 1
 omega
theorem vf {p q:Int} (hq:q≠0):0<Ya p.natAbs q.natAbs:=Nat.gcd_pos_of_pos_right _ (by omega)
theorem mw {p q:Int} (hp:p.natAbs<LIM) (hq:q.natAbs<LIM):cg (Yb p q):=by
 have main:∀ {p q:Int},p.natAbs<LIM→q.natAbs<LIM→0<q→cg (Yb p q):=by
  intro p q hp hq h0;obtain⟨h1,h2⟩:=mQ (p:=p) h0;have hg:=vf (p:=p) (q:=q) (by omega);refine⟨?_,?_⟩
  ·rw[h1];exact ma hp (by omega)
  ·have:=ma (y:=((Ya p.natAbs q.natAbs:Nat):Int)) hq (by omega)
   rw[←h2,XD] at this;exact this
 rcases Yg q 0 with h | h | h
 ·rw[←Yh]
  exact main (by omega) (by omega) (by omega)
 ·subst h
  rw[Rat.divInt_zero];unfold cg LIM;exact⟨Nat.pow_pos (by omega),Nat.one_lt_pow (by omega) (by omega)⟩
 ·exact main hp hq h
noncomputable def w6:List Data→Option PRes:=FF (α:=Int × (List Int) × Int × (List Int)) (fun (s,l,s2,l2)=>([.agg [.int .i64 s,.sl (l.map aa)],.agg [.int .i64 s2,.sl (l2.map aa)]]:List Data)) (fun (s,l,s2,l2)=>aI (l.length≤1000000∧l2.length≤1000000) (.same (bw (fM (s,l) (s2,l2)))))
theorem Dk:∀ a b:Int × (List Int) × Int × (List Int),(fun (s,l,s2,l2)=>([.agg [.int .i64 s,.sl (l.map aa)],.agg [.int .i64 s2,.sl (l2.map aa)]]:List Data)) a=(fun (s,l,s2,l2)=>([.agg [.int .i64 s,.sl (l.map aa)],.agg [.int .i64 s2,.sl (l2.map aa)]]:List Data)) b→a=b:=by
  rintro⟨s1,l1,s21,l21⟩ ⟨s2,l2,s22,l22⟩ h;simp only[List.cons.injEq,Data.agg.injEq,Data.int.injEq,Data.sl.injEq] at h;exact XE h.1.1.2 (XE (af ai _ _ h.1.2.1) (XE h.2.1.1.2 (af ai _ _ h.2.1.2.1)))
@[go_sem] theorem PB (s:Int) (l:List Int) (s2:Int) (l2:List Int) (hc:l.length≤1000000∧l2.length≤1000000):w6 [.agg [.int .i64 s,.sl (l.map aa)],.agg [.int .i64 s2,.sl (l2.map aa)]]=some (.same (bw (fM (s,l) (s2,l2)))):=(aX Dk (s,l,s2,l2)).trans (al hc _)
theorem OI (T:Tab) (ak:T ba=mkE d8) (qk:T jb=mkE D5) (o0:T kO=mkE Ec) (jU:T ip=mkE DL) (s:Int) (l:List Int) (s2:Int) (l2:List Int) (hc:l.length≤1000000∧l2.length≤1000000) :
  wp T mf_frac_New.body (bF mf_frac_New.res (.same (bw (fM (s,l) (s2,l2))))) ⟨ax [.dat (.agg [.int .i64 s,.sl (l.map aa)]),.dat (.agg [.int .i64 s2,.sl (l2.map aa)])],emp⟩:=by
 refine ap ?_;simp only[mf_frac_New];obtain⟨hl1,hl2⟩:=hc
 by_cases hr:aJ (s,l)=true
 ·by_cases hr2:aJ (s2,l2)=true
  ·obtain⟨x,hx,e⟩:=(bj _).1 hr
   obtain⟨y,hy,e2⟩:=(bj _).1 hr2
   by_cases h0:y=0
   ·have hm:fM (s,l) (s2,l2)=(bV,15):=by
     unfold fM;rw[hr,hr2,e2,aS,if_pos (by rfl),if_pos h0]
    rw[hm]
    cases e
    cases e2;have hs:(y.sign==0)=true:=by rw[h0];rfl
    refine qI ?_
    repeat' (intro h<;>simp only[h,go_sem,go_sem_proc,XF,ak,qk,o0,jU,hr,hr2,hl1,hl2,hs,bw,ad,bV,XG]<;>try refine qS ?_ ?_)
   ·have main:∀ p q:Int,p.natAbs<LIM→q.natAbs<LIM→0<q→∃ g:Raw,kd (aR p) (aR q)=(g,0)∧g.2.length≤1000000∧jp (aR p) g=(aR (Yb p q).num,aR (p.fmod ((Ya p.natAbs q.natAbs:Nat):Int)),0)∧jp (aR q) g=(aR (Yb p q).den,aR (q.fmod ((Ya p.natAbs q.natAbs:Nat):Int)),0):=by
     intro p q hp hq hq0;have hgl:=qJ hp hq;have hgl':((Ya p.natAbs q.natAbs:Nat):Int).natAbs<LIM:=by rw[XD];exact hgl
     have hg0:=vf (p:=p) (q:=q) (by omega);obtain⟨h1,h2⟩:=mQ (p:=p) hq0;refine⟨aR ((Ya p.natAbs q.natAbs:Nat):Int),?_,eT hgl',?_,?_⟩
     ·unfold kd;rw[bI hp,bI hq,aS,aS];rfl
     ·rw[kr hp hgl' (by omega),h1]
     ·rw[kr hq hgl' (by omega),h2]
    have hs0:(y.sign==0)=false:=by simpa using h0
    rcases Int.lt_or_gt_of_ne h0 with hneg | hpos
    ·have hs1:decide (y.sign<0)=true:=by rw[XV hneg];rfl
     obtain⟨⟨g1,g2⟩,hg,hgl,hd1,hd2⟩:=main (-x) (-y) (by omega) (by omega) (by omega)
     have hm:fM (s,l) (s2,l2)=(aj (Yb (-x) (-y)),0):=by
      rw[e,e2,iN hx hy h0,Yh]
     rw[hm];have hn1:iT (s,l)=aR (-x):=by unfold iT;rw[if_pos hr,e,aS]
     have hn2:iT (s2,l2)=aR (-y):=by unfold iT;rw[if_pos hr2,e2,aS]
     have hy1:s2=y.sign:=congrArg Yi e2;have hl3:(aR (-x)).2.length≤1000000:=eT (by omega);have hl4:(aR (-y)).2.length≤1000000:=eT (by omega);clear e e2;unfold aj;generalize aR (-x)=X at *;generalize aR (-y)=Y at *;obtain⟨x1,x2⟩:=X;obtain⟨y1,y2⟩:=Y;rw[←hy1] at hs0 hs1;refine qI ?_
     repeat' (intro h<;>simp only[h,go_sem,go_sem_proc,XF,ak,qk,o0,jU,hr,hr2,hl1,hl2,hs0,hs1,hn1,hn2,hl3,hl4,hg,hgl,hd1,hd2,bw,ad,dM,c9,bD]<;>try refine qS ?_ ?_)
    ·have hs1:decide (y.sign<0)=false:=by rw[XM hpos];rfl
     obtain⟨⟨g1,g2⟩,hg,hgl,hd1,hd2⟩:=main x y hx hy hpos
     have hm:fM (s,l) (s2,l2)=(aj (Yb x y),0):=by
      rw[e,e2,iN hx hy h0]
     rw[hm];have hy1:s2=y.sign:=congrArg Yi e2;rw[←e] at hg hd1;rw[←e2] at hg hd2;rw[←hy1] at hs0 hs1;unfold aj;refine qI ?_
     repeat' (intro h<;>simp only[h,go_sem,go_sem_proc,XF,ak,qk,o0,jU,hr,hr2,hl1,hl2,hs0,hs1,hg,hgl,hd1,hd2,bw,ad,dM,c9,bD]<;>try refine qS ?_ ?_)
  ·have hr2:aJ (s2,l2)=false:=by simpa using hr2
   have hm:fM (s,l) (s2,l2)=(bV,1):=by unfold fM;rw[hr2,XQ];rfl
   rw[hm];refine qI ?_
   repeat' (intro h<;>simp only[h,go_sem,go_sem_proc,XF,ak,qk,o0,jU,hr,hr2,hl1,hl2,bw,ad,bV,XG]<;>try refine qS ?_ ?_)
 ·have hr:aJ (s,l)=false:=by simpa using hr
  have hm:fM (s,l) (s2,l2)=(bV,1):=by unfold fM;rw[hr,XR];rfl
  rw[hm];refine qI ?_
  repeat' (intro h<;>simp only[h,go_sem,go_sem_proc,XF,ak,qk,o0,jU,hr,hl1,hl2,bw,ad,bV,XG]<;>try refine qS ?_ ?_)
noncomputable def zX:List Data→Option PRes:=FF (α:=Int × Int) (fun (p,q)=>([.int .i64 p,.int .i64 q]:List Data)) (fun (p,q)=>aI (cn p∧cn q) (.same (bw (fM (aR p) (aR q)))))
theorem GR:∀ a b:Int × Int,(fun (p,q)=>([.int .i64 p,.int .i64 q]:List Data)) a=(fun (p,q)=>([.int .i64 p,.int .i64 q]:List Data)) b→a=b:=by
  rintro⟨p1,q1⟩ ⟨p2,q2⟩ h;simp only[List.cons.injEq,Data.int.injEq,Data.agg.injEq,Data.sl.injEq,Data.bool.injEq,Data.str.injEq,Data.ptr.injEq,Data.tup.injEq,Prod.mk.injEq,true_and,and_true] at h ⊢
  first | exact h | simpa [XS,and_assoc] using h | grind
@[go_sem] theorem Jf (p:Int) (q:Int) (hc:cn p∧cn q):zX [.int .i64 p,.int .i64 q]=some (.same (bw (fM (aR p) (aR q)))):=(aX GR (p,q)).trans (al hc _)
theorem P2 (T:Tab) (Mn:T oy=mkE yC) (tJ:T jF=mkE w6) (p:Int) (q:Int) (hc:cn p∧cn q) :
  wp T mf_frac_Of.body (bF mf_frac_Of.res (.same (bw (fM (aR p) (aR q))))) ⟨ax [.dat (.int .i64 p),.dat (.int .i64 q)],emp⟩:=by
 refine ap ?_;simp only[mf_frac_Of];obtain⟨h1,h2⟩:=hc;have l1:(aR p).2.length≤1000000:=eT (jx h1);have l2:(aR q).2.length≤1000000:=eT (jx h2);generalize hP:aR p=P at *;generalize hQ:aR q=Q at *;obtain⟨x1,x2⟩:=P;obtain⟨y1,y2⟩:=Q;refine qI ?_
 repeat' (intro h<;>simp only[h,go_sem,go_sem_proc,XF,Mn,tJ,h1,h2,hP,hQ,l1,l2,bD,bw,ad]<;>try refine qS ?_ ?_)
def tQ (a b c d:Raw):Raw × Int :=
 if ((f9 a b).2==0)=true then (if ((f9 c d).2==0)=true then pP (f9 a b).1 (f9 c d).1 else ((0,[]),(f9 c d).2)) else ((0,[]),(f9 a b).2)
theorem vY (z:Int):(lc z).1.2.length≤1000000:=by
 unfold lc
 split
 ·exact eT (by assumption)
 ·simp
theorem kS (a b:Raw):(f9 a b).1.2.length≤1000000:=by
 unfold f9
 split
 ·exact vY _
 ·simp
theorem JC (a b:Raw):(pP a b).1.2.length≤1000000:=by
 unfold pP
 split
 ·exact vY _
 ·simp
theorem HT (a b c d:Raw):(tQ a b c d).1.2.length≤1000000:=by
 unfold tQ
 split
 ·split
  ·exact JC _ _
  ·simp
 ·simp
noncomputable def C3:List Data→Option PRes:=FF (α:=Int × (List Int) × Int × (List Int) × Int × (List Int) × Int × (List Int)) (fun (s,l,s2,l2,s3,l3,s4,l4)=>([.agg [.int .i64 s,.sl (l.map aa)],.agg [.int .i64 s2,.sl (l2.map aa)],.agg [.int .i64 s3,.sl (l3.map aa)],.agg [.int .i64 s4,.sl (l4.map aa)]]:List Data)) (fun (s,l,s2,l2,s3,l3,s4,l4)=>aI (l.length≤1000000∧l2.length≤1000000∧l3.length≤1000000∧l4.length≤1000000) (.same (dM (tQ (s,l) (s2,l2) (s3,l3) (s4,l4)))))
theorem Cc:∀ a b:Int × (List Int) × Int × (List Int) × Int × (List Int) × Int × (List Int),(fun (s,l,s2,l2,s3,l3,s4,l4)=>([.agg [.int .i64 s,.sl (l.map aa)],.agg [.int .i64 s2,.sl (l2.map aa)],.agg [.int .i64 s3,.sl (l3.map aa)],.agg [.int .i64 s4,.sl (l4.map aa)]]:List Data)) a=(fun (s,l,s2,l2,s3,l3,s4,l4)=>([.agg [.int .i64 s,.sl (l.map aa)],.agg [.int .i64 s2,.sl (l2.map aa)],.agg [.int .i64 s3,.sl (l3.map aa)],.agg [.int .i64 s4,.sl (l4.map aa)]]:List Data)) b→a=b:=by
  rintro⟨s1,l1,s21,l21,s31,l31,s41,l41⟩ ⟨s2,l2,s22,l22,s32,l32,s42,l42⟩ h;simp only[List.cons.injEq,Data.agg.injEq,Data.int.injEq,Data.sl.injEq] at h;exact XE h.1.1.2 (XE (af ai _ _ h.1.2.1) (XE h.2.1.1.2 (XE (af ai _ _ h.2.1.2.1) (XE h.2.2.1.1.2 (XE (af ai _ _ h.2.2.1.2.1) (XE h.2.2.2.1.1.2 (af ai _ _ h.2.2.2.1.2.1)))))))
@[go_sem] theorem OZ (s:Int) (l:List Int) (s2:Int) (l2:List Int) (s3:Int) (l3:List Int) (s4:Int) (l4:List Int) (hc:l.length≤1000000∧l2.length≤1000000∧l3.length≤1000000∧l4.length≤1000000):C3 [.agg [.int .i64 s,.sl (l.map aa)],.agg [.int .i64 s2,.sl (l2.map aa)],.agg [.int .i64 s3,.sl (l3.map aa)],.agg [.int .i64 s4,.sl (l4.map aa)]]=some (.same (dM (tQ (s,l) (s2,l2) (s3,l3) (s4,l4)))):=(aX Cc (s,l,s2,l2,s3,l3,s4,l4)).trans (al hc _)
theorem Ov (T:Tab) (jV:T dH=mkE vS) (JL:T pr=mkE Jk) (s:Int) (l:List Int) (s2:Int) (l2:List Int) (s3:Int) (l3:List Int) (s4:Int) (l4:List Int) (hc:l.length≤1000000∧l2.length≤1000000∧l3.length≤1000000∧l4.length≤1000000) :
  wp T mf_frac_sum.body (bF mf_frac_sum.res (.same (dM (tQ (s,l) (s2,l2) (s3,l3) (s4,l4))))) ⟨ax [.dat (.agg [.int .i64 s,.sl (l.map aa)]),.dat (.agg [.int .i64 s2,.sl (l2.map aa)]),.dat (.agg [.int .i64 s3,.sl (l3.map aa)]),.dat (.agg [.int .i64 s4,.sl (l4.map aa)])],emp⟩:=by
 refine ap ?_;simp only[mf_frac_sum];obtain⟨hl1,hl2,hl3,hl4⟩:=hc;have m1:=kS (s,l) (s2,l2);have m2:=kS (s3,l3) (s4,l4);unfold tQ;generalize hM1:f9 (s,l) (s2,l2)=M1 at *;generalize hM2:f9 (s3,l3) (s4,l4)=M2 at *;obtain⟨⟨a1,a2⟩,e1⟩:=M1;obtain⟨⟨b1,b2⟩,e2⟩:=M2;rcases h1:(e1==0)
 ·refine qI ?_
  repeat' (intro h<;>simp only[h,go_sem,go_sem_proc,XF,jV,JL,hl1,hl2,hl3,hl4,hM1,h1,m1,m2,dM,bD,XG]<;>try refine qS ?_ ?_)
 ·have z1:e1=0:=by simpa using h1
  subst z1;rcases h2:(e2==0)
  ·refine qI ?_
   repeat' (intro h<;>simp only[h,go_sem,go_sem_proc,XF,jV,JL,hl1,hl2,hl3,hl4,hM1,hM2,h1,h2,m1,m2,dM,bD,XG]<;>try refine qS ?_ ?_)
  ·have z2:e2=0:=by simpa using h2
   subst z2;refine qI ?_
   repeat' (intro h<;>simp only[h,go_sem,go_sem_proc,XF,jV,JL,hl1,hl2,hl3,hl4,hM1,hM2,h1,m1,m2,dM,bD,XG]<;>try refine qS ?_ ?_)
def ng (p:Raw × Int) (q:Raw × Int):aF × Int:=if (p.2==0)=true then (if (q.2==0)=true then fM p.1 q.1 else (bV,6)) else (bV,6)
noncomputable def qW:List Data→Option PRes:=FF (α:=Int × (List Int) × Int × Int × (List Int) × Int) (fun (s,l,e,s2,l2,e2)=>([.agg [.int .i64 s,.sl (l.map aa)],.int .i64 e,.agg [.int .i64 s2,.sl (l2.map aa)],.int .i64 e2]:List Data)) (fun (s,l,e,s2,l2,e2)=>aI (l.length≤1000000∧l2.length≤1000000) (.same (bw (ng ((s,l),e) ((s2,l2),e2)))))
theorem Af:∀ a b:Int × (List Int) × Int × Int × (List Int) × Int,(fun (s,l,e,s2,l2,e2)=>([.agg [.int .i64 s,.sl (l.map aa)],.int .i64 e,.agg [.int .i64 s2,.sl (l2.map aa)],.int .i64 e2]:List Data)) a=(fun (s,l,e,s2,l2,e2)=>([.agg [.int .i64 s,.sl (l.map aa)],.int .i64 e,.agg [.int .i64 s2,.sl (l2.map aa)],.int .i64 e2]:List Data)) b→a=b:=by
  rintro⟨s1,l1,e1,s21,l21,e21⟩ ⟨s2,l2,e2,s22,l22,e22⟩ h;simp only[List.cons.injEq,Data.agg.injEq,Data.int.injEq,Data.sl.injEq] at h;exact XE h.1.1.2 (XE (af ai _ _ h.1.2.1) (XE h.2.1.2 (XE h.2.2.1.1.2 (XE (af ai _ _ h.2.2.1.2.1) h.2.2.2.1.2))))
@[go_sem] theorem NI (s:Int) (l:List Int) (e:Int) (s2:Int) (l2:List Int) (e2:Int) (hc:l.length≤1000000∧l2.length≤1000000):qW [.agg [.int .i64 s,.sl (l.map aa)],.int .i64 e,.agg [.int .i64 s2,.sl (l2.map aa)],.int .i64 e2]=some (.same (bw (ng ((s,l),e) ((s2,l2),e2)))):=(aX Af (s,l,e,s2,l2,e2)).trans (al hc _)
theorem K9 (T:Tab) (tJ:T jF=mkE w6) (s:Int) (l:List Int) (e:Int) (s2:Int) (l2:List Int) (e2:Int) (hc:l.length≤1000000∧l2.length≤1000000) :
  wp T mf_frac_quotient.body (bF mf_frac_quotient.res (.same (bw (ng ((s,l),e) ((s2,l2),e2))))) ⟨ax [.dat (.agg [.int .i64 s,.sl (l.map aa)]),.dat (.int .i64 e),.dat (.agg [.int .i64 s2,.sl (l2.map aa)]),.dat (.int .i64 e2)],emp⟩:=by
 refine ap ?_;simp only[mf_frac_quotient];obtain⟨hl1,hl2⟩:=hc;unfold ng;rcases h1:(e==0)
 ·refine qI ?_
  repeat' (intro h<;>simp only[h,go_sem,go_sem_proc,XF,tJ,hl1,hl2,h1,bw,ad,bV,XG]<;>try refine qS ?_ ?_)
 ·have z1:e=0:=by simpa using h1
  subst z1;rcases h2:(e2==0)
  ·refine qI ?_
   repeat' (intro h<;>simp only[h,go_sem,go_sem_proc,XF,tJ,hl1,hl2,h1,h2,bw,ad,bV,XG]<;>try refine qS ?_ ?_)
  ·have z2:e2=0:=by simpa using h2
   subst z2;refine qI ?_
   repeat' (intro h<;>simp only[h,go_sem,go_sem_proc,XF,tJ,hl1,hl2,h1,bw,ad,bV,XG]<;>try refine qS ?_ ?_)
def sq (a b:aF):aF × Int:=if bc a=true then (if bc b=true then ng (tQ a.1 b.2 b.1 a.2) (f9 a.2 b.2) else (bV,1)) else (bV,1)
def nm (a b:aF):aF × Int:=if bc a=true then (if bc b=true then sq a (iT b.1,b.2) else (bV,1)) else (bV,1)
def lZ (a b:aF):aF × Int:=if bc a=true then (if bc b=true then ng (f9 a.1 b.1) (f9 a.2 b.2) else (bV,1)) else (bV,1)
def iY (a b:aF):aF × Int:=if bc a=true then (if bc b=true then (if (b.1.1==0)=true then (bV,15) else ng (f9 a.1 b.2) (f9 a.2 b.1)) else (bV,1)) else (bV,1)
theorem Ib (a:Raw) (h:a.2.length≤1000000):(iT a).2.length≤1000000:=by
 unfold iT
 split
 ·rename_i hr
  obtain⟨z,hz,e⟩:=(bj _).1 hr;rw[e,aS];exact eT (by omega)
 ·simp
noncomputable def mZ:List Data→Option PRes:=FF (α:=Int × (List Int) × Int × (List Int) × Int × (List Int) × Int × (List Int)) (fun (s,l,s2,l2,s3,l3,s4,l4)=>([.agg [.int .i64 s,.sl (l.map aa),.int .i64 s2,.sl (l2.map aa)],.agg [.int .i64 s3,.sl (l3.map aa),.int .i64 s4,.sl (l4.map aa)]]:List Data)) (fun (s,l,s2,l2,s3,l3,s4,l4)=>aI (l.length≤1000000∧l2.length≤1000000∧l3.length≤1000000∧l4.length≤1000000) (.same (bw (sq ((s,l),(s2,l2)) ((s3,l3),(s4,l4))))))
theorem CM:∀ a b:Int × (List Int) × Int × (List Int) × Int × (List Int) × Int × (List Int),(fun (s,l,s2,l2,s3,l3,s4,l4)=>([.agg [.int .i64 s,.sl (l.map aa),.int .i64 s2,.sl (l2.map aa)],.agg [.int .i64 s3,.sl (l3.map aa),.int .i64 s4,.sl (l4.map aa)]]:List Data)) a=(fun (s,l,s2,l2,s3,l3,s4,l4)=>([.agg [.int .i64 s,.sl (l.map aa),.int .i64 s2,.sl (l2.map aa)],.agg [.int .i64 s3,.sl (l3.map aa),.int .i64 s4,.sl (l4.map aa)]]:List Data)) b→a=b:=by
  rintro⟨s1,l1,s21,l21,s31,l31,s41,l41⟩ ⟨s2,l2,s22,l22,s32,l32,s42,l42⟩ h;simp only[List.cons.injEq,Data.agg.injEq,Data.int.injEq,Data.sl.injEq] at h;exact XE h.1.1.2 (XE (af ai _ _ h.1.2.1) (XE h.1.2.2.1.2 (XE (af ai _ _ h.1.2.2.2.1) (XE h.2.1.1.2 (XE (af ai _ _ h.2.1.2.1) (XE h.2.1.2.2.1.2 (af ai _ _ h.2.1.2.2.2.1)))))))
@[go_sem] theorem we (s:Int) (l:List Int) (s2:Int) (l2:List Int) (s3:Int) (l3:List Int) (s4:Int) (l4:List Int) (hc:l.length≤1000000∧l2.length≤1000000∧l3.length≤1000000∧l4.length≤1000000):mZ [.agg [.int .i64 s,.sl (l.map aa),.int .i64 s2,.sl (l2.map aa)],.agg [.int .i64 s3,.sl (l3.map aa),.int .i64 s4,.sl (l4.map aa)]]=some (.same (bw (sq ((s,l),(s2,l2)) ((s3,l3),(s4,l4))))):=(aX CM (s,l,s2,l2,s3,l3,s4,l4)).trans (al hc _)
theorem OD (T:Tab) (aK:T aW=mkE fN) (CH:T nR=mkE C3) (jV:T dH=mkE vS) (ic:T dt=mkE qW) (s:Int) (l:List Int) (s2:Int) (l2:List Int) (s3:Int) (l3:List Int) (s4:Int) (l4:List Int) (hc:l.length≤1000000∧l2.length≤1000000∧l3.length≤1000000∧l4.length≤1000000) :
  wp T mf_frac_Add.body (bF mf_frac_Add.res (.same (bw (sq ((s,l),(s2,l2)) ((s3,l3),(s4,l4)))))) ⟨ax [.dat (.agg [.int .i64 s,.sl (l.map aa),.int .i64 s2,.sl (l2.map aa)]),.dat (.agg [.int .i64 s3,.sl (l3.map aa),.int .i64 s4,.sl (l4.map aa)])],emp⟩:=by
 refine ap ?_;simp only[mf_frac_Add];obtain⟨hl1,hl2,hl3,hl4⟩:=hc;unfold sq
 by_cases hr:bc ((s,l),(s2,l2))=true
 ·by_cases hr2:bc ((s3,l3),(s4,l4))=true
  ·have m1:=HT (s,l) (s4,l4) (s3,l3) (s2,l2)
   have m2:=kS (s2,l2) (s4,l4);rw[if_pos hr,if_pos hr2];dsimp only;generalize hM1:tQ (s,l) (s4,l4) (s3,l3) (s2,l2)=M1 at *;generalize hM2:f9 (s2,l2) (s4,l4)=M2 at *;obtain⟨⟨a1,a2⟩,e1⟩:=M1;obtain⟨⟨b1,b2⟩,e2⟩:=M2;refine qI ?_
   repeat' (intro h<;>simp only[h,go_sem,go_sem_proc,XF,aK,CH,jV,ic,hl1,hl2,hl3,hl4,hr,hr2,hM1,hM2,m1,m2,dM,bD,bw,ad]<;>try refine qS ?_ ?_)
  ·have hr2:bc ((s3,l3),(s4,l4))=false:=by simpa using hr2
   rw[if_pos hr,if_neg (by simp [hr2])];refine qI ?_
   repeat' (intro h<;>simp only[h,go_sem,go_sem_proc,XF,aK,CH,jV,ic,hl1,hl2,hl3,hl4,hr,hr2,bw,ad,bV,XG]<;>try refine qS ?_ ?_)
 ·have hr:bc ((s,l),(s2,l2))=false:=by simpa using hr
  rw[if_neg (by simp [hr])];refine qI ?_
  repeat' (intro h<;>simp only[h,go_sem,go_sem_proc,XF,aK,CH,jV,ic,hl1,hl2,hl3,hl4,hr,bw,ad,bV,XG]<;>try refine qS ?_ ?_)
noncomputable def mG:List Data→Option PRes:=FF (α:=Int × (List Int) × Int × (List Int) × Int × (List Int) × Int × (List Int)) (fun (s,l,s2,l2,s3,l3,s4,l4)=>([.agg [.int .i64 s,.sl (l.map aa),.int .i64 s2,.sl (l2.map aa)],.agg [.int .i64 s3,.sl (l3.map aa),.int .i64 s4,.sl (l4.map aa)]]:List Data)) (fun (s,l,s2,l2,s3,l3,s4,l4)=>aI (l.length≤1000000∧l2.length≤1000000∧l3.length≤1000000∧l4.length≤1000000) (.same (bw (nm ((s,l),(s2,l2)) ((s3,l3),(s4,l4))))))
theorem CR:∀ a b:Int × (List Int) × Int × (List Int) × Int × (List Int) × Int × (List Int),(fun (s,l,s2,l2,s3,l3,s4,l4)=>([.agg [.int .i64 s,.sl (l.map aa),.int .i64 s2,.sl (l2.map aa)],.agg [.int .i64 s3,.sl (l3.map aa),.int .i64 s4,.sl (l4.map aa)]]:List Data)) a=(fun (s,l,s2,l2,s3,l3,s4,l4)=>([.agg [.int .i64 s,.sl (l.map aa),.int .i64 s2,.sl (l2.map aa)],.agg [.int .i64 s3,.sl (l3.map aa),.int .i64 s4,.sl (l4.map aa)]]:List Data)) b→a=b:=by
  rintro⟨s1,l1,s21,l21,s31,l31,s41,l41⟩ ⟨s2,l2,s22,l22,s32,l32,s42,l42⟩ h;simp only[List.cons.injEq,Data.agg.injEq,Data.int.injEq,Data.sl.injEq] at h;exact XE h.1.1.2 (XE (af ai _ _ h.1.2.1) (XE h.1.2.2.1.2 (XE (af ai _ _ h.1.2.2.2.1) (XE h.2.1.1.2 (XE (af ai _ _ h.2.1.2.1) (XE h.2.1.2.2.1.2 (af ai _ _ h.2.1.2.2.2.1)))))))
@[go_sem] theorem GD (s:Int) (l:List Int) (s2:Int) (l2:List Int) (s3:Int) (l3:List Int) (s4:Int) (l4:List Int) (hc:l.length≤1000000∧l2.length≤1000000∧l3.length≤1000000∧l4.length≤1000000):mG [.agg [.int .i64 s,.sl (l.map aa),.int .i64 s2,.sl (l2.map aa)],.agg [.int .i64 s3,.sl (l3.map aa),.int .i64 s4,.sl (l4.map aa)]]=some (.same (bw (nm ((s,l),(s2,l2)) ((s3,l3),(s4,l4))))):=(aX CR (s,l,s2,l2,s3,l3,s4,l4)).trans (al hc _)
theorem NP (T:Tab) (aK:T aW=mkE fN) (qk:T jb=mkE D5) (cH:T dR=mkE mZ) (s:Int) (l:List Int) (s2:Int) (l2:List Int) (s3:Int) (l3:List Int) (s4:Int) (l4:List Int) (hc:l.length≤1000000∧l2.length≤1000000∧l3.length≤1000000∧l4.length≤1000000) :
  wp T mf_frac_Sub.body (bF mf_frac_Sub.res (.same (bw (nm ((s,l),(s2,l2)) ((s3,l3),(s4,l4)))))) ⟨ax [.dat (.agg [.int .i64 s,.sl (l.map aa),.int .i64 s2,.sl (l2.map aa)]),.dat (.agg [.int .i64 s3,.sl (l3.map aa),.int .i64 s4,.sl (l4.map aa)])],emp⟩:=by
 refine ap ?_;simp only[mf_frac_Sub];obtain⟨hl1,hl2,hl3,hl4⟩:=hc;unfold nm
 by_cases hr:bc ((s,l),(s2,l2))=true
 ·by_cases hr2:bc ((s3,l3),(s4,l4))=true
  ·have m1:=Ib (s3,l3) hl3
   rw[if_pos hr,if_pos hr2];dsimp only;generalize hM1:iT (s3,l3)=M1 at *;obtain⟨a1,a2⟩:=M1;refine qI ?_
   repeat' (intro h<;>simp only[h,go_sem,go_sem_proc,XF,aK,qk,cH,hl1,hl2,hl3,hl4,hr,hr2,hM1,m1,dM,bD,bw,ad]<;>try refine qS ?_ ?_)
  ·have hr2:bc ((s3,l3),(s4,l4))=false:=by simpa using hr2
   rw[if_pos hr,if_neg (by simp [hr2])];refine qI ?_
   repeat' (intro h<;>simp only[h,go_sem,go_sem_proc,XF,aK,qk,cH,hl1,hl2,hl3,hl4,hr,hr2,bw,ad,bV,XG]<;>try refine qS ?_ ?_)
 ·have hr:bc ((s,l),(s2,l2))=false:=by simpa using hr
  rw[if_neg (by simp [hr])];refine qI ?_
  repeat' (intro h<;>simp only[h,go_sem,go_sem_proc,XF,aK,qk,cH,hl1,hl2,hl3,hl4,hr,bw,ad,bV,XG]<;>try refine qS ?_ ?_)
noncomputable def ll:List Data→Option PRes:=FF (α:=Int × (List Int) × Int × (List Int) × Int × (List Int) × Int × (List Int)) (fun (s,l,s2,l2,s3,l3,s4,l4)=>([.agg [.int .i64 s,.sl (l.map aa),.int .i64 s2,.sl (l2.map aa)],.agg [.int .i64 s3,.sl (l3.map aa),.int .i64 s4,.sl (l4.map aa)]]:List Data)) (fun (s,l,s2,l2,s3,l3,s4,l4)=>aI (l.length≤1000000∧l2.length≤1000000∧l3.length≤1000000∧l4.length≤1000000) (.same (bw (lZ ((s,l),(s2,l2)) ((s3,l3),(s4,l4))))))
theorem CP:∀ a b:Int × (List Int) × Int × (List Int) × Int × (List Int) × Int × (List Int),(fun (s,l,s2,l2,s3,l3,s4,l4)=>([.agg [.int .i64 s,.sl (l.map aa),.int .i64 s2,.sl (l2.map aa)],.agg [.int .i64 s3,.sl (l3.map aa),.int .i64 s4,.sl (l4.map aa)]]:List Data)) a=(fun (s,l,s2,l2,s3,l3,s4,l4)=>([.agg [.int .i64 s,.sl (l.map aa),.int .i64 s2,.sl (l2.map aa)],.agg [.int .i64 s3,.sl (l3.map aa),.int .i64 s4,.sl (l4.map aa)]]:List Data)) b→a=b:=by
  rintro⟨s1,l1,s21,l21,s31,l31,s41,l41⟩ ⟨s2,l2,s22,l22,s32,l32,s42,l42⟩ h;simp only[List.cons.injEq,Data.agg.injEq,Data.int.injEq,Data.sl.injEq] at h;exact XE h.1.1.2 (XE (af ai _ _ h.1.2.1) (XE h.1.2.2.1.2 (XE (af ai _ _ h.1.2.2.2.1) (XE h.2.1.1.2 (XE (af ai _ _ h.2.1.2.1) (XE h.2.1.2.2.1.2 (af ai _ _ h.2.1.2.2.2.1)))))))
@[go_sem] theorem Gm (s:Int) (l:List Int) (s2:Int) (l2:List Int) (s3:Int) (l3:List Int) (s4:Int) (l4:List Int) (hc:l.length≤1000000∧l2.length≤1000000∧l3.length≤1000000∧l4.length≤1000000):ll [.agg [.int .i64 s,.sl (l.map aa),.int .i64 s2,.sl (l2.map aa)],.agg [.int .i64 s3,.sl (l3.map aa),.int .i64 s4,.sl (l4.map aa)]]=some (.same (bw (lZ ((s,l),(s2,l2)) ((s3,l3),(s4,l4))))):=(aX CP (s,l,s2,l2,s3,l3,s4,l4)).trans (al hc _)
theorem OJ (T:Tab) (aK:T aW=mkE fN) (jV:T dH=mkE vS) (ic:T dt=mkE qW) (s:Int) (l:List Int) (s2:Int) (l2:List Int) (s3:Int) (l3:List Int) (s4:Int) (l4:List Int) (hc:l.length≤1000000∧l2.length≤1000000∧l3.length≤1000000∧l4.length≤1000000) :
  wp T mf_frac_Mul.body (bF mf_frac_Mul.res (.same (bw (lZ ((s,l),(s2,l2)) ((s3,l3),(s4,l4)))))) ⟨ax [.dat (.agg [.int .i64 s,.sl (l.map aa),.int .i64 s2,.sl (l2.map aa)]),.dat (.agg [.int .i64 s3,.sl (l3.map aa),.int .i64 s4,.sl (l4.map aa)])],emp⟩:=by
 refine ap ?_;simp only[mf_frac_Mul];obtain⟨hl1,hl2,hl3,hl4⟩:=hc;unfold lZ
 by_cases hr:bc ((s,l),(s2,l2))=true
 ·by_cases hr2:bc ((s3,l3),(s4,l4))=true
  ·have m1:=kS (s,l) (s3,l3)
   have m2:=kS (s2,l2) (s4,l4);rw[if_pos hr,if_pos hr2];dsimp only;generalize hM1:f9 (s,l) (s3,l3)=M1 at *;generalize hM2:f9 (s2,l2) (s4,l4)=M2 at *;obtain⟨⟨a1,a2⟩,e1⟩:=M1;obtain⟨⟨b1,b2⟩,e2⟩:=M2;refine qI ?_
   repeat' (intro h<;>simp only[h,go_sem,go_sem_proc,XF,aK,jV,ic,hl1,hl2,hl3,hl4,hr,hr2,hM1,hM2,m1,m2,dM,bD,bw,ad]<;>try refine qS ?_ ?_)
  ·have hr2:bc ((s3,l3),(s4,l4))=false:=by simpa using hr2
   rw[if_pos hr,if_neg (by simp [hr2])];refine qI ?_
   repeat' (intro h<;>simp only[h,go_sem,go_sem_proc,XF,aK,jV,ic,hl1,hl2,hl3,hl4,hr,hr2,bw,ad,bV,XG]<;>try refine qS ?_ ?_)
 ·have hr:bc ((s,l),(s2,l2))=false:=by simpa using hr
  rw[if_neg (by simp [hr])];refine qI ?_
  repeat' (intro h<;>simp only[h,go_sem,go_sem_proc,XF,aK,jV,ic,hl1,hl2,hl3,hl4,hr,bw,ad,bV,XG]<;>try refine qS ?_ ?_)
noncomputable def o6:List Data→Option PRes:=FF (α:=Int × (List Int) × Int × (List Int) × Int × (List Int) × Int × (List Int)) (fun (s,l,s2,l2,s3,l3,s4,l4)=>([.agg [.int .i64 s,.sl (l.map aa),.int .i64 s2,.sl (l2.map aa)],.agg [.int .i64 s3,.sl (l3.map aa),.int .i64 s4,.sl (l4.map aa)]]:List Data)) (fun (s,l,s2,l2,s3,l3,s4,l4)=>aI (l.length≤1000000∧l2.length≤1000000∧l3.length≤1000000∧l4.length≤1000000) (.same (bw (iY ((s,l),(s2,l2)) ((s3,l3),(s4,l4))))))
theorem C6:∀ a b:Int × (List Int) × Int × (List Int) × Int × (List Int) × Int × (List Int),(fun (s,l,s2,l2,s3,l3,s4,l4)=>([.agg [.int .i64 s,.sl (l.map aa),.int .i64 s2,.sl (l2.map aa)],.agg [.int .i64 s3,.sl (l3.map aa),.int .i64 s4,.sl (l4.map aa)]]:List Data)) a=(fun (s,l,s2,l2,s3,l3,s4,l4)=>([.agg [.int .i64 s,.sl (l.map aa),.int .i64 s2,.sl (l2.map aa)],.agg [.int .i64 s3,.sl (l3.map aa),.int .i64 s4,.sl (l4.map aa)]]:List Data)) b→a=b:=by
  rintro⟨s1,l1,s21,l21,s31,l31,s41,l41⟩ ⟨s2,l2,s22,l22,s32,l32,s42,l42⟩ h;simp only[List.cons.injEq,Data.agg.injEq,Data.int.injEq,Data.sl.injEq] at h;exact XE h.1.1.2 (XE (af ai _ _ h.1.2.1) (XE h.1.2.2.1.2 (XE (af ai _ _ h.1.2.2.2.1) (XE h.2.1.1.2 (XE (af ai _ _ h.2.1.2.1) (XE h.2.1.2.2.1.2 (af ai _ _ h.2.1.2.2.2.1)))))))
@[go_sem] theorem Fq (s:Int) (l:List Int) (s2:Int) (l2:List Int) (s3:Int) (l3:List Int) (s4:Int) (l4:List Int) (hc:l.length≤1000000∧l2.length≤1000000∧l3.length≤1000000∧l4.length≤1000000):o6 [.agg [.int .i64 s,.sl (l.map aa),.int .i64 s2,.sl (l2.map aa)],.agg [.int .i64 s3,.sl (l3.map aa),.int .i64 s4,.sl (l4.map aa)]]=some (.same (bw (iY ((s,l),(s2,l2)) ((s3,l3),(s4,l4))))):=(aX C6 (s,l,s2,l2,s3,l3,s4,l4)).trans (al hc _)
theorem Om (T:Tab) (aK:T aW=mkE fN) (jV:T dH=mkE vS) (ic:T dt=mkE qW) (s:Int) (l:List Int) (s2:Int) (l2:List Int) (s3:Int) (l3:List Int) (s4:Int) (l4:List Int) (hc:l.length≤1000000∧l2.length≤1000000∧l3.length≤1000000∧l4.length≤1000000) :
  wp T mf_frac_Div.body (bF mf_frac_Div.res (.same (bw (iY ((s,l),(s2,l2)) ((s3,l3),(s4,l4)))))) ⟨ax [.dat (.agg [.int .i64 s,.sl (l.map aa),.int .i64 s2,.sl (l2.map aa)]),.dat (.agg [.int .i64 s3,.sl (l3.map aa),.int .i64 s4,.sl (l4.map aa)])],emp⟩:=by
 refine ap ?_;simp only[mf_frac_Div];obtain⟨hl1,hl2,hl3,hl4⟩:=hc;unfold iY
 by_cases hr:bc ((s,l),(s2,l2))=true
 ·by_cases hr2:bc ((s3,l3),(s4,l4))=true
  ·rw[if_pos hr,if_pos hr2]
   dsimp only;rcases h0:(s3==0)
   ·have m1:=kS (s,l) (s4,l4)
    have m2:=kS (s2,l2) (s3,l3);rw[if_neg (by simp)];generalize hM1:f9 (s,l) (s4,l4)=M1 at *;generalize hM2:f9 (s2,l2) (s3,l3)=M2 at *;obtain⟨⟨a1,a2⟩,e1⟩:=M1;obtain⟨⟨b1,b2⟩,e2⟩:=M2;refine qI ?_
    repeat' (intro h<;>simp only[h,go_sem,go_sem_proc,XF,aK,jV,ic,hl1,hl2,hl3,hl4,hr,hr2,h0,hM1,hM2,m1,m2,dM,bD,bw,ad]<;>try refine qS ?_ ?_)
   ·rw[if_pos rfl]
    refine qI ?_
    repeat' (intro h<;>simp only[h,go_sem,go_sem_proc,XF,aK,jV,ic,hl1,hl2,hl3,hl4,hr,hr2,h0,bw,ad,bV,XG]<;>try refine qS ?_ ?_)
  ·have hr2:bc ((s3,l3),(s4,l4))=false:=by simpa using hr2
   rw[if_pos hr,if_neg (by simp [hr2])];refine qI ?_
   repeat' (intro h<;>simp only[h,go_sem,go_sem_proc,XF,aK,jV,ic,hl1,hl2,hl3,hl4,hr,hr2,bw,ad,bV,XG]<;>try refine qS ?_ ?_)
 ·have hr:bc ((s,l),(s2,l2))=false:=by simpa using hr
  rw[if_neg (by simp [hr])];refine qI ?_
  repeat' (intro h<;>simp only[h,go_sem,go_sem_proc,XF,aK,jV,ic,hl1,hl2,hl3,hl4,hr,bw,ad,bV,XG]<;>try refine qS ?_ ?_)
def pU (c:Bool) (v:Rat):aF × Int:=if c=true then (aj v,0) else (bV,6)
def okZ (z:Int):Bool:=decide (z.natAbs<LIM)
def gP (x y:Rat):Bool:=okZ (x.num*y.den)&&(okZ (y.num*x.den)&&(okZ (x.num*y.den+y.num*x.den)&&okZ ((x.den:Int)*y.den)))
def pL (x y:Rat):Bool:=okZ (x.num*y.num)&&okZ ((x.den:Int)*y.den)
def nG (x y:Rat):Bool:=okZ (x.num*y.den)&&okZ ((x.den:Int)*y.num)
theorem iz {z:Int} (h:okZ z=true):lc z=(aR z,0):=if_pos (by simpa [okZ] using h)
theorem jB {z:Int} (h:okZ z=false):lc z=((0,[]),6):=if_neg (by simpa [okZ] using h)
theorem gV {z:Int} (h:okZ z=true):z.natAbs<LIM:=by simpa [okZ] using h
theorem JB {a b c d:Int} (ha:a.natAbs<LIM) (hb:b.natAbs<LIM) (hc:c.natAbs<LIM) (hd:d.natAbs<LIM) :
  tQ (aR a) (aR b) (aR c) (aR d)=if (okZ (a*b)&&(okZ (c*d)&&okZ (a*b+c*d)))=true then (aR (a*b+c*d),0) else ((0,[]),6):=by
 unfold tQ;rw[jD ha hb,jD hc hd];rcases h1:okZ (a*b)
 ·rw[jB h1];rfl
 ·rw[iz h1]
  rcases h2:okZ (c*d)
  ·rw[jB h2];rfl
  ·rw[iz h2]
   show pP (aR (a*b)) (aR (c*d))=_;rw[yY (gV h1) (gV h2)];rcases h3:okZ (a*b+c*d)
   ·rw[jB h3];rfl
   ·rw[iz h3];rfl
theorem pC (x y:Rat):Yb (x.num*y.den+y.num*x.den) ((x.den:Int)*y.den)=x+y:=by
 rw[←Rat.divInt_add_divInt _ _ (by have:=den_pos x;omega) (by have:=den_pos y;omega),Yc,Yc]
theorem pB (x y:Rat):Yb (x.num*y.num) ((x.den:Int)*y.den)=x*y:=by
 rw[←Yj,Yc,Yc]
theorem pu (x y:Rat):Yb (x.num*y.den) ((x.den:Int)*y.num)=x / y:=by
 rw[←Yj,Yc,←Rat.inv_divInt,Yc]
 rfl
theorem kF (x:Rat):(x.den:Int)≠0:=by have:=den_pos x;omega
theorem uU {x y:Rat} (hx:cg x) (hy:cg y):sq (aj x) (aj y)=pU (gP x y) (x+y):=by
 unfold sq;rw[if_pos (eU hx),if_pos (eU hy)]
 show ng (tQ (aR x.num) (aR y.den) (aR y.num) (aR x.den)) (f9 (aR x.den) (aR y.den))=_;rw[JB hx.1 (vg hy) hy.1 (vg hx),jD (vg hx) (vg hy)];unfold gP;rcases h1:okZ (x.num*y.den)
 ·rfl
 ·rcases h2:okZ (y.num*x.den)
  ·rfl
  ·rcases h3:okZ (x.num*y.den+y.num*x.den)
   ·rfl
   ·rcases h4:okZ ((x.den:Int)*y.den)
    ·rw[jB h4];rfl
    ·rw[iz h4]
     show fM (aR (x.num*y.den+y.num*x.den)) (aR ((x.den:Int)*y.den))=(aj (x+y),0)
     rw[iN (gV h3) (gV h4) (Yk (kF x) (kF y)),pC]
theorem IV {x:Rat} (h:cg x):cg (-x):=⟨by rw[Rat.neg_num];have:=h.1;omega,by rw[Rat.neg_den];exact h.2⟩
theorem qw {x y:Rat} (hx:cg x) (hy:cg y):nm (aj x) (aj y)=pU (gP x (-y)) (x-y):=by
 unfold nm;rw[if_pos (eU hx),if_pos (eU hy)]
 have:(iT (aj y).1,(aj y).2)=aj (-y):=by
  unfold aj;have:iT (aR y.num)=aR (-y.num):=by unfold iT;rw[if_pos (bI hy.1),aS]
  dsimp only;rw[this];rfl
 rw[this,uU hx (IV hy),Yl]
theorem ul {x y:Rat} (hx:cg x) (hy:cg y):lZ (aj x) (aj y)=pU (pL x y) (x*y):=by
 unfold lZ;rw[if_pos (eU hx),if_pos (eU hy)]
 show ng (f9 (aR x.num) (aR y.num)) (f9 (aR x.den) (aR y.den))=_;rw[jD hx.1 hy.1,jD (vg hx) (vg hy)];unfold pL;rcases h1:okZ (x.num*y.num)
 ·rw[jB h1];rfl
 ·rw[iz h1]
  rcases h4:okZ ((x.den:Int)*y.den)
  ·rw[jB h4];rfl
  ·rw[iz h4]
   show fM (aR (x.num*y.num)) (aR ((x.den:Int)*y.den))=(aj (x*y),0)
   rw[iN (gV h1) (gV h4) (Yk (kF x) (kF y)),pB]
theorem pY {x y:Rat} (hx:cg x) (hy:cg y) (h0:y≠0):iY (aj x) (aj y)=pU (nG x y) (x / y):=by
 unfold iY;rw[if_pos (eU hx),if_pos (eU hy)];have hn:y.num≠0:=fun h=>h0 (Rat.num_eq_zero.1 h)
 have:((aj y).1.1==0)=false:=by
  show (y.num.sign==0)=false
  simpa using hn
 rw[this,if_neg (by simp)]
 show ng (f9 (aR x.num) (aR y.den)) (f9 (aR x.den) (aR y.num))=_;rw[jD hx.1 (vg hy),jD (vg hx) hy.1];unfold nG;rcases h1:okZ (x.num*y.den)
 ·rw[jB h1];rfl
 ·rw[iz h1]
  rcases h4:okZ ((x.den:Int)*y.num)
  ·rw[jB h4];rfl
  ·rw[iz h4]
   show fM (aR (x.num*y.den)) (aR ((x.den:Int)*y.num))=(aj (x / y),0)
   rw[iN (gV h1) (gV h4) (Yk (kF x) hn),pu]
theorem Lx {x y:Rat} (h:gP x y=true):cg (x+y):=by
 unfold gP at h;simp only[Yd] at h;rw[←pC];exact mw (gV h.2.2.1) (gV h.2.2.2)
theorem Ep {x y:Rat} (h:gP x (-y)=true):cg (x-y):=by rw[Yl];exact Lx h
theorem EE {x y:Rat} (h:pL x y=true):cg (x*y):=by
 unfold pL at h;simp only[Yd] at h;rw[←pB];exact mw (gV h.1) (gV h.2)
theorem Lp {x y:Rat} (h:nG x y=true):cg (x / y):=by
 unfold nG at h;simp only[Yd] at h;rw[←pu];exact mw (gV h.1) (gV h.2)
def kU (x y:Rat):Int:=(x.num*y.den-y.num*x.den).sign
def kg (a b:aF):Int:=if bc a=true then (if bc b=true then (gG a.1*gG b.2-gG b.1*gG a.2).sign else 0) else 0
theorem nV {x y:Rat} (hx:cg x) (hy:cg y):kg (aj x) (aj y)=kU x y:=by
 unfold kg;rw[if_pos (eU hx),if_pos (eU hy)];unfold aj kU;rw[aS,aS,aS,aS]
theorem cmpQ_zero {x y:Rat}:kU x y=0↔x=y:=by
 unfold kU;rw[XH,Rat.eq_iff_mul_eq_mul];omega
theorem qN {p q:Int} (hq:0<q):0≤p.fmod q∧p.fmod q<q:=⟨Int.fmod_nonneg_of_pos _ hq,Int.fmod_lt_of_pos _ hq⟩
theorem I0 {p q r s:Int} (hq:0<q) (hs:0<s) (h:p.fdiv q<r.fdiv s):p*s-r*q<0:=by
 have e1:=Ym p q;have e2:=Ym r s;have b1:=qN (p:=p) hq;have b2:=qN (p:=r) hs;generalize p.fdiv q=x at *;generalize r.fdiv s=y at *;generalize p.fmod q=u at *;generalize r.fmod s=v at *;subst e1 e2;have h1:q*s*(x+1)≤q*s*y:=Int.mul_le_mul_of_nonneg_left (by omega) (X3 (Int.mul_pos hq hs));have h2:u*s<q*s:=Int.mul_lt_mul_of_pos_right b1.2 hs;have h3:0≤v*q:=X2 b2.1 (by omega);have e3:(q*x+u)*s-(s*y+v)*q=q*s*(x+1)-q*s*y+(u*s-q*s)-v*q:=by grind
 omega
theorem Nj {p q r s:Int} (h:p.fdiv q=r.fdiv s):p*s-r*q=p.fmod q*s-r.fmod s*q:=by
 have e1:=Ym p q;have e2:=Ym r s;rw[h] at e1;generalize r.fdiv s=y at *;generalize p.fmod q=u at *;generalize r.fmod s=v at *;subst e1 e2;grind
theorem wL (a b:Int):(a-b).sign = -(b-a).sign:=by rw[←XL];congr 1;omega
theorem vU {p q:Int} (hp:p.natAbs<LIM) (hq:q.natAbs<LIM) (h0:0<q) :
  jp (p.sign,dg p.natAbs) (q.sign,dg q.natAbs)=(((p.fdiv q).sign,dg (p.fdiv q).natAbs),((p.fmod q).sign,dg (p.fmod q).natAbs),0):=kr hp hq (by omega)
noncomputable def dr:List Data→Option PRes:=FF (α:=Int × (List Int) × Int × (List Int) × Int × (List Int) × Int × (List Int)) (fun (s,l,s2,l2,s3,l3,s4,l4)=>([.agg [.int .i64 s,.sl (l.map aa),.int .i64 s2,.sl (l2.map aa)],.agg [.int .i64 s3,.sl (l3.map aa),.int .i64 s4,.sl (l4.map aa)]]:List Data)) (fun (s,l,s2,l2,s3,l3,s4,l4)=>aI (l.length≤1000000∧l2.length≤1000000∧l3.length≤1000000∧l4.length≤1000000) (.same (.int .i64 (kg ((s,l),(s2,l2)) ((s3,l3),(s4,l4))))))
theorem uq:∀ a b:Int × (List Int) × Int × (List Int) × Int × (List Int) × Int × (List Int),(fun (s,l,s2,l2,s3,l3,s4,l4)=>([.agg [.int .i64 s,.sl (l.map aa),.int .i64 s2,.sl (l2.map aa)],.agg [.int .i64 s3,.sl (l3.map aa),.int .i64 s4,.sl (l4.map aa)]]:List Data)) a=(fun (s,l,s2,l2,s3,l3,s4,l4)=>([.agg [.int .i64 s,.sl (l.map aa),.int .i64 s2,.sl (l2.map aa)],.agg [.int .i64 s3,.sl (l3.map aa),.int .i64 s4,.sl (l4.map aa)]]:List Data)) b→a=b:=by
  rintro⟨s1,l1,s21,l21,s31,l31,s41,l41⟩ ⟨s2,l2,s22,l22,s32,l32,s42,l42⟩ h;simp only[List.cons.injEq,Data.agg.injEq,Data.int.injEq,Data.sl.injEq] at h;exact XE h.1.1.2 (XE (af ai _ _ h.1.2.1) (XE h.1.2.2.1.2 (XE (af ai _ _ h.1.2.2.2.1) (XE h.2.1.1.2 (XE (af ai _ _ h.2.1.2.1) (XE h.2.1.2.2.1.2 (af ai _ _ h.2.1.2.2.2.1)))))))
@[go_sem] theorem oY (s:Int) (l:List Int) (s2:Int) (l2:List Int) (s3:Int) (l3:List Int) (s4:Int) (l4:List Int) (hc:l.length≤1000000∧l2.length≤1000000∧l3.length≤1000000∧l4.length≤1000000):dr [.agg [.int .i64 s,.sl (l.map aa),.int .i64 s2,.sl (l2.map aa)],.agg [.int .i64 s3,.sl (l3.map aa),.int .i64 s4,.sl (l4.map aa)]]=some (.same (.int .i64 (kg ((s,l),(s2,l2)) ((s3,l3),(s4,l4))))):=(aX uq (s,l,s2,l2,s3,l3,s4,l4)).trans (al hc _)
theorem Cq (T:Tab) (aK:T aW=mkE fN) (jU:T ip=mkE DL) (fP:T kB=mkE rl) (s:Int) (l:List Int) (s2:Int) (l2:List Int) (s3:Int) (l3:List Int) (s4:Int) (l4:List Int) (hc:l.length≤1000000∧l2.length≤1000000∧l3.length≤1000000∧l4.length≤1000000) :
  wp T mf_frac_Compare.body (bF mf_frac_Compare.res (.same (.int .i64 (kg ((s,l),(s2,l2)) ((s3,l3),(s4,l4)))))) ⟨ax [.dat (.agg [.int .i64 s,.sl (l.map aa),.int .i64 s2,.sl (l2.map aa)]),.dat (.agg [.int .i64 s3,.sl (l3.map aa),.int .i64 s4,.sl (l4.map aa)])],emp⟩:=by
 refine ap ?_;simp only[mf_frac_Compare];obtain⟨hl1,hl2,hl3,hl4⟩:=hc
 by_cases hr:bc ((s,l),(s2,l2))=true
 ·by_cases hr2:bc ((s3,l3),(s4,l4))=true
  ·obtain⟨x,hx,e⟩:=(kt _).1 hr
   obtain⟨y,hy,e2⟩:=(kt _).1 hr2;have hm:kg ((s,l),(s2,l2)) ((s3,l3),(s4,l4))=kU x y:=by rw[e,e2,nV hx hy]
   rw[hm];clear hm;have ea:(s,l)=aR x.num:=congrArg Yi e;have eb:(s2,l2)=aR x.den:=congrArg Prod.snd e;have ec:(s3,l3)=aR y.num:=congrArg Yi e2;have ed:(s4,l4)=aR y.den:=congrArg Prod.snd e2;clear e e2;have hxd:=vg hx;have hyd:=vg hy;have hx0:=den_pos x;have hy0:=den_pos y;have hxn:=hx.1;have hyn:=hy.1;unfold kU;generalize x.num=P at *;generalize (x.den:Int)=Q at *;generalize y.num=R at *;generalize (y.den:Int)=S at *
   cases ea
   cases eb
   cases ec
   cases ed;simp only[go_sem,go_sem_proc,XF,aK,jU,fP,hl1,hl2,hl3,hl4,hr,hr2];refine ae [5,6,7,8] [135002,135003] (fun ((sg,p,q,r,t):Int × Int × Int × Int × Int) tm mem=>(sg=1∨sg = -1)∧0<q∧0<t∧p.natAbs<LIM∧q.natAbs<LIM∧r.natAbs<LIM∧t.natAbs<LIM∧(P*S-R*Q).sign=sg*(p*t-r*q).sign∧tm 9 = .dat (.int .i64 sg)∧mem 135005=some (0,[.dat (.int .i64 p.sign),.dat (.sl ((dg p.natAbs).map aa))])∧mem 135006=some (0,[.dat (.int .i64 q.sign),.dat (.sl ((dg q.natAbs).map aa))])∧mem 135007=some (0,[.dat (.int .i64 r.sign),.dat (.sl ((dg r.natAbs).map aa))])∧mem 135008=some (0,[.dat (.int .i64 t.sign),.dat (.sl ((dg t.natAbs).map aa))])) (fun (_,_,q,_,_)=>q.natAbs) (1,P,Q,R,S) (by refine⟨.inl rfl,hx0,hy0,hxn,hxd,hyn,hyd,by rw[Xv],rfl,?_,?_,?_,?_⟩<;>rfl) ?_
   intro vs ms hvs hms;simp only[go_sem,go_sem_proc,XF,aK,jU,fP] at hvs hms;subst hvs hms;rintro⟨sg,p,q,r,t⟩ tm mem hk hm ⟨hsg,hq0,ht0,hp,hq,hrr,ht,hval,h9,m5,m6,m7,m8⟩;simp only[go_sem,go_sem_proc,XF,aK,jU,fP,List.cons.injEq] at hk hm;obtain⟨h5,h6,h7,h8⟩:=hk;have lp:=eT hp;have lq:=eT hq;have lr:=eT hrr;have lt:=eT ht;have hd1:=vU hp hq hq0;have hd2:=vU hrr ht ht0;have bx:=ma (y:=q) hp (by omega);have by':=ma (y:=t) hrr (by omega)
   have lx:=eT bx;have ly:=eT by'
   have hcm:sU ((p.fdiv q).sign,dg (p.fdiv q).natAbs) ((r.fdiv t).sign,dg (r.fdiv t).natAbs)=fV (p.fdiv q) (r.fdiv t):=BA bx by'
   have bu:=qN (p:=p) hq0;have bv:=qN (p:=r) ht0;have hneg1:IntKind.i64.wrap (0-sg) = -sg:=by rcases hsg with rfl | rfl<;>rfl
   rcases Yg (p.fdiv q) (r.fdiv t) with hlt | heq | hgt
   ·have hv:=I0 hq0 ht0 hlt
    rw[qG hlt] at hcm;rw[hval,XV hv];have hw:IntKind.i64.wrap (sg * -1)=sg * -1:=by rcases hsg with rfl | rfl<;>rfl
    refine qI ?_
    repeat' (intro h<;>simp only[h,go_sem,go_sem_proc,XF,aK,jU,fP,h5,h6,h7,h8,h9,hm,m5,m6,m7,m8,lp,lq,lr,lt,lx,ly,hd1,hd2,hcm,hw,c9,bD,show ((-1:Int)==0)=false from rfl]<;>try refine qS ?_ ?_)
   ·have hv:=Nj heq
    rw[heq,sQ] at hcm
    have hw2:∀ a:Int,-1≤a→a≤1→IntKind.i64.wrap (sg*a)=sg*a:=by
     intro a h1 h2;rcases hsg with rfl | rfl<;>exact an _ (by omega) (by omega)
    rw[heq] at hd1 lx;have bul:(p.fmod q).natAbs<LIM:=by omega
    have bvl:(r.fmod t).natAbs<LIM:=by omega
    rw[hv] at hval;generalize p.fmod q=u at *;generalize r.fmod t=v at *
    by_cases hu:u=0
    ·subst hu
     have hs:(0*t-v*q).sign=(0:Int).sign-v.sign:=by
      rw[Xw,Yn,XL,XI,XM hq0,Xy,Yo,Yn]
     rw[hs] at hval;rw[hval];have h3:=dW v;have hw0:IntKind.i64.wrap ((0:Int).sign-v.sign)=(0:Int).sign-v.sign:=an _ (by rw[Yo];omega) (by rw[Yo];omega);have hw:=hw2 ((0:Int).sign-v.sign) (by rw[Yo];omega) (by rw[Yo];omega);refine qI ?_
     repeat' (intro h<;>simp only[h,go_sem,go_sem_proc,XF,aK,jU,fP,h5,h6,h7,h8,h9,hm,m5,m6,m7,m8,lp,lq,lr,lt,lx,ly,hd1,hd2,hcm,hw,hw0,c9,bD,show ((0:Int)==0)=true from rfl,show ((0:Int).sign==0)=true from rfl]<;>try refine qS ?_ ?_)
    ·have hu0:0<u:=by omega
     have hu1:(u.sign==0)=false:=by simpa using hu
     by_cases hv0:v=0
     ·subst hv0
      have hs:(u*t-0*q).sign=u.sign-(0:Int).sign:=by
       rw[Xw,Yp,XI,XM ht0,Xy,Yo,Yp]
      rw[hs] at hval;rw[hval];have h3:=dW u;have hw0:IntKind.i64.wrap (u.sign-(0:Int).sign)=u.sign-(0:Int).sign:=an _ (by rw[Yo];omega) (by rw[Yo];omega);have hw:=hw2 (u.sign-(0:Int).sign) (by rw[Yo];omega) (by rw[Yo];omega);refine qI ?_
      repeat' (intro h<;>simp only[h,go_sem,go_sem_proc,XF,aK,jU,fP,h5,h6,h7,h8,h9,hm,m5,m6,m7,m8,lp,lq,lr,lt,lx,ly,hd1,hd2,hcm,hw,hw0,hu1,c9,bD,show ((0:Int)==0)=true from rfl,show ((0:Int).sign==0)=true from rfl]<;>try refine qS ?_ ?_)
     ·have hv1:(v.sign==0)=false:=by simpa using hv0
      refine qI ?_
      repeat' (intro h<;>simp only[h,go_sem,go_sem_proc,XF,aK,jU,fP,h5,h6,h7,h8,h9,hm,m5,m6,m7,m8,lp,lq,lr,lt,lx,ly,hd1,hd2,hcm,hu1,hv1,hneg1,c9,bD,show ((0:Int)==0)=true from rfl]<;>try refine qS ?_ ?_)
      refine⟨(-sg,q,u,t,v),by dsimp only;omega,by dsimp only;omega,by dsimp only;omega,by dsimp only;omega,by dsimp only;omega,by dsimp only;omega,by dsimp only;omega,by dsimp only;omega,?_,by simp [go_sem],by simp [go_sem],by simp [go_sem],by simp [go_sem],by simp [go_sem]⟩
      dsimp only;rw[hval,wL (q*v) (t*u),Int.neg_mul_neg,X9 t u,X9 q v]
   ·have hv:=I0 ht0 hq0 hgt
    rw[qd hgt] at hcm;rw[hval,wL,XV hv];have hw:IntKind.i64.wrap (sg*1)=sg * -(-1):=by rcases hsg with rfl | rfl<;>rfl
    refine qI ?_
    repeat' (intro h<;>simp only[h,go_sem,go_sem_proc,XF,aK,jU,fP,h5,h6,h7,h8,h9,hm,m5,m6,m7,m8,lp,lq,lr,lt,lx,ly,hd1,hd2,hcm,hw,c9,bD,show ((1:Int)==0)=false from rfl]<;>try refine qS ?_ ?_)
  ·have hr2:bc ((s3,l3),(s4,l4))=false:=by simpa using hr2
   have hm:kg ((s,l),(s2,l2)) ((s3,l3),(s4,l4))=0:=by unfold kg;rw[if_pos hr,if_neg (by simp [hr2])]
   rw[hm];refine qI ?_
   repeat' (intro h<;>simp only[h,go_sem,go_sem_proc,XF,aK,jU,fP,hl1,hl2,hl3,hl4,hr,hr2]<;>try refine qS ?_ ?_)
 ·have hr:bc ((s,l),(s2,l2))=false:=by simpa using hr
  have hm:kg ((s,l),(s2,l2)) ((s3,l3),(s4,l4))=0:=by unfold kg;rw[if_neg (by simp [hr])]
  rw[hm];refine qI ?_
  repeat' (intro h<;>simp only[h,go_sem,go_sem_proc,XF,aK,jU,fP,hl1,hl2,hl3,hl4,hr]<;>try refine qS ?_ ?_)
end Go.Mini
