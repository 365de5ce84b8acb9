/- A part of the proof. -/
import Derived.Test.YtdbkjjoedjfmpaaM05
import Derived.Test.YtdbkjjoedjfmpaaM04
set_option linter.unusedSimpArgs false
set_option linter.unusedVariables false
open Nat renaming div_add_mod → XT, eq_zero_or_pos → XU, mod_lt → XV, zero_mod → X5, mul_le_mul_right → X6, div_le_self → X7, le_of_lt → Ye, pos_of_ne_zero → Yk, reduceMul → YA, gcd → YF
open Int renaming ofNat_sub → XW, natCast_add → XX, mul_neg → XY, mul_add → XZ, neg_mul → X0, one_mul → X1, zero_mul → X2, mul_zero → X3, mul_one → X4, natAbs_mul → X8, natAbs_natCast → X9, sign_mul → Yd, natAbs_neg → Yf, sign_neg → Yg, sign_eq_one_of_pos → Yh, sign_sign → Yi, sign_eq_neg_one_of_neg → Yq, natCast_zero → Yr, cast_ofNat_Int → Ys, mul_nonneg → Yx, le_of_lt → Yy, pow_pos → Yz, reducePow → YB, toNat_natCast → YD, mul_comm → YE, fdiv_eq_ediv_of_nonneg → YK, lt_trichotomy → YL, mul_ne_zero → YP, mul_fdiv_add_fmod → YR, zero_sub → YS, sign_zero → YT, sub_zero → YU
open Prod renaming ext → Ya, ext_iff → Yn, fst → YN
open Bool renaming false_eq_true → Yb, and_false → Yl, false_and → Ym, and_eq_true → YI, true_and → YJ
open List renaming map_nil → Yc, length_map → Yj, append_nil → Yp, take_length → Yt, length → Yu, length_append → Yv, append_assoc → Yw, getElem?_map → YC
open Decidable renaming em → Yo
open Rat renaming divInt → YG, num_divInt_den → YH, neg_divInt_neg → YM, divInt_mul_divInt → YO, sub_eq_add_neg → YQ
namespace Go.Mini
open Go
set_option maxRecDepth 10000
set_option maxHeartbeats 2000000
def jj (a b:Raw):Raw × Raw × Int :=
 if (aI a&&aI b)=true then
  if gM b=0 then ((0,[]),(0,[]),15) else (aP ((gM a).fdiv (gM b)),aP ((gM a).fmod (gM b)),0)
 else ((0,[]),(0,[]),1)
def dj (x:Raw × Raw × Int):Data:=.tup [.agg (bF x.1),.agg (bF x.2.1),.int .i64 x.2.2]
theorem EM {x y q r:Int} (h:r+y*q=x) (hr:(0≤r∧r<y)∨(y<r∧r≤0)):x.fdiv y=q∧x.fmod y=r:=by
 rcases hr with ⟨h1,h2⟩ | ⟨h1,h2⟩
 ·exact (Int.fdiv_fmod_unique (by omega)).2 ⟨h,h1,h2⟩
 ·exact (Int.fdiv_fmod_unique' (by omega)).2 ⟨h,h1,h2⟩
theorem ol {x y:Int} (h:x.sign*y.sign<0) (hm:x.natAbs % y.natAbs≠0) :
  x.fdiv y = -((x.natAbs / y.natAbs+1:Nat):Int)∧x.fmod y=y.sign*((y.natAbs-x.natAbs % y.natAbs:Nat):Int):=by
 have h2:=XT x.natAbs y.natAbs;generalize hQ:x.natAbs / y.natAbs=Q at *;generalize hR:x.natAbs % y.natAbs=R at *
 have hy:0<y.natAbs:=by
  rcases XU y.natAbs with h0 | h0
  ·rw[Int.natAbs_eq_zero.1 h0] at h;simp at h
  ·exact h0
 have hlt:R<y.natAbs:=by rw[←hR];exact XV _ hy
 have h2':(y.natAbs:Int)*Q+R=x.natAbs:=by exact_mod_cast h2
 refine EM ?_ ?_
 ·rcases cz x with ⟨e,h1⟩ | ⟨e,h1⟩ | ⟨e,h1⟩<;>rcases cz y with ⟨e',h3⟩ | ⟨e',h3⟩ | ⟨e',h3⟩<;>rw[e,e'] at h<;>first | omega | rw[e']
  ·rw[XW (by omega),XX,XY,XZ]
   have:(y.natAbs:Int) = -y:=by omega
   rw[this] at h2' ⊢;rw[X0] at h2';omega
  ·rw[XW (by omega),XX,XY,XZ]
   have:(y.natAbs:Int)=y:=by omega
   rw[this] at h2' ⊢;omega
 ·rcases cz y with ⟨e',h3⟩ | ⟨e',h3⟩ | ⟨e',h3⟩<;>rw[e']<;>omega
theorem lz {x y:Int} (hy:y≠0) (h:¬ (x.sign*y.sign<0∧x.natAbs % y.natAbs≠0)) :
  x.fdiv y=x.sign*y.sign*((x.natAbs / y.natAbs:Nat):Int)∧x.fmod y=x.sign*((x.natAbs % y.natAbs:Nat):Int):=by
 have h2:=XT x.natAbs y.natAbs;have hlt:x.natAbs % y.natAbs<y.natAbs:=XV _ (by omega);generalize hQ:x.natAbs / y.natAbs=Q at *;generalize hR:x.natAbs % y.natAbs=R at *;have h2':(y.natAbs:Int)*Q+R=x.natAbs:=by exact_mod_cast h2
 refine EM ?_ ?_
 ·rcases cz x with ⟨e,h1⟩ | ⟨e,h1⟩ | ⟨e,h1⟩<;>rcases cz y with ⟨e',h3⟩ | ⟨e',h3⟩ | ⟨e',h3⟩<;>first | omega | (rw[e,e'])
  ·rw[show (y.natAbs:Int)=y by omega] at h2';simp only[X1];omega
  ·rw[show (y.natAbs:Int) = -y by omega,X0] at h2';simp only[X1,X0,XY];omega
  ·simp only[X2,X3];omega
  ·simp only[X2,X3];omega
  ·rw[show (y.natAbs:Int)=y by omega] at h2';simp only[X1,X0,XY,X4];omega
  ·rw[show (y.natAbs:Int) = -y by omega,X0] at h2';simp only[X1,X0,XY,Int.neg_neg];omega
 ·have hR0:x.natAbs=0→R=0:=by
   intro h0;rw[←hR,h0,X5]
  rcases cz x with ⟨e,h1⟩ | ⟨e,h1⟩ | ⟨e,h1⟩<;>rcases cz y with ⟨e',h3⟩ | ⟨e',h3⟩ | ⟨e',h3⟩<;>rw[e,e'] at h<;>rw[e]<;>omega
theorem mh {x y:Int} (hx:x.natAbs<LIM) (hy0:y≠0):(x.fdiv y).natAbs<LIM:=by
 by_cases h:x.sign*y.sign<0∧x.natAbs % y.natAbs≠0
 ·have hf:=(ol h.1 h.2).1
  have h2:=XT x.natAbs y.natAbs
  have:x.natAbs / y.natAbs+1≤x.natAbs:=by
   have hy2:2≤y.natAbs:=by
    rcases Nat.lt_or_ge y.natAbs 2 with h0 | h0
    ·have:y.natAbs=1:=by omega
     rw[this,Nat.mod_one] at h;exact absurd rfl h.2
    ·exact h0
   have h3:2*(x.natAbs / y.natAbs)≤y.natAbs*(x.natAbs / y.natAbs):=X6 _ hy2;omega
  generalize x.natAbs / y.natAbs=Q at *;omega
 ·have hf:=(lz hy0 h).1
  have h3:x.natAbs / y.natAbs≤x.natAbs:=X7 _ _
  have h4:(x.fdiv y).natAbs≤x.natAbs / y.natAbs:=by
   rw[hf,X8,X8,X9];have h1:x.sign.natAbs≤1:=by have:=dY x;omega
   have h2:y.sign.natAbs≤1:=by have:=dY y;omega
   have:=Nat.mul_le_mul h1 h2;have:=X6 (x.natAbs / y.natAbs) this;omega
  omega
theorem AT {x y:Int} (hy:y.natAbs<LIM) (hy0:y≠0):(x.fmod y).natAbs<LIM:=by
 by_cases h:x.sign*y.sign<0∧x.natAbs % y.natAbs≠0
 ·have hf:=(ol h.1 h.2).2
  rcases cz y with ⟨e',h3⟩ | ⟨e',h3⟩ | ⟨e',h3⟩<;>rw[e'] at hf<;>omega
 ·have hf:=(lz hy0 h).2
  have hlt:x.natAbs % y.natAbs<y.natAbs:=XV _ (by omega);rcases cz x with ⟨e',h3⟩ | ⟨e',h3⟩ | ⟨e',h3⟩<;>rw[e'] at hf<;>omega
theorem lf {x y:Int} (hx:x.natAbs<LIM) (hy:y.natAbs<LIM) (h0:y≠0):jj (aP x) (aP y)=(aP (x.fdiv y),aP (x.fmod y),0):=by
 unfold jj;rw[bJ hx,bJ hy,aQ,aQ,if_pos (by rfl),if_neg h0]
noncomputable def El:List Data→Option PRes:=FF (α:=Int × (List Int) × Int × (List Int)) (fun (s,l,s2,l2)=>([.agg [.int .i64 s,.sl (l.map aa)],.agg [.int .i64 s2,.sl (l2.map aa)]]:List Data)) (fun (s,l,s2,l2)=>aG (l.length≤1000000∧l2.length≤1000000) (.same (dj (jj (s,l) (s2,l2)))))
theorem FJ:∀ a b:Int × (List Int) × Int × (List Int),(fun (s,l,s2,l2)=>([.agg [.int .i64 s,.sl (l.map aa)],.agg [.int .i64 s2,.sl (l2.map aa)]]:List Data)) a=(fun (s,l,s2,l2)=>([.agg [.int .i64 s,.sl (l.map aa)],.agg [.int .i64 s2,.sl (l2.map aa)]]:List Data)) b→a=b:=by
  rintro⟨s1,l1,s21,l21⟩ ⟨s2,l2,s22,l22⟩ h;simp only[List.cons.injEq,Data.agg.injEq,Data.int.injEq,Data.sl.injEq] at h;exact Ya h.1.1.2 (Ya (af ai _ _ h.1.2.1) (Ya h.2.1.1.2 (af ai _ _ h.2.1.2.1)))
@[go_sem] theorem RC (s:Int) (l:List Int) (s2:Int) (l2:List Int) (hc:l.length≤1000000∧l2.length≤1000000):El [.agg [.int .i64 s,.sl (l.map aa)],.agg [.int .i64 s2,.sl (l2.map aa)]]=some (.same (dj (jj (s,l) (s2,l2)))):=(aV FJ (s,l,s2,l2)).trans (an hc _)
theorem QV (T:Tab) (al:T aY=mkE d8) (iD:T kK=mkE ES) (gd:T kS=mkE ER) (gz:T jw=mkE EA) (aK:T bB=mkE jK) (s:Int) (l:List Int) (s2:Int) (l2:List Int) (hc:l.length≤1000000∧l2.length≤1000000) :
  wp T mf_big_Div.body (bG mf_big_Div.res (.same (dj (jj (s,l) (s2,l2))))) ⟨ax [.dat (.agg [.int .i64 s,.sl (l.map aa)]),.dat (.agg [.int .i64 s2,.sl (l2.map aa)])],emp⟩:=by
 refine ap ?_;simp only[mf_big_Div];obtain⟨hl1,hl2⟩:=hc
 by_cases hr:aI (s,l)=true
 ·by_cases hr2:aI (s2,l2)=true
  ·obtain⟨x,hx,e⟩:=(bj _).1 hr
   obtain⟨y,hy,e2⟩:=(bj _).1 hr2
   by_cases hy0:y=0
   ·have hm:jj (s,l) (s2,l2)=((0,[]),(0,[]),15):=by
     rw[e,e2];unfold jj
     rw[bJ hx,bJ hy,aQ,aQ,if_pos (by rfl),if_pos hy0]
    rw[hm]
    cases e
    cases e2;have h0:((y.sign:Int)==0)=true:=by rw[hy0];rfl
    simp only[go_sem,go_sem_proc,Yb,al,iD,gd,gz,aK,hr,hr2,hl1,hl2,h0,bF,dj,Yc]
    repeat' (first|refine qS ?_ ?_|fail)<;>intro h<;>simp only[h,go_sem,go_sem_proc,Yb,al,iD,gd,gz,aK,hr,hr2,hl1,hl2,h0,bF,dj,Yc]
   ·have hm:jj (s,l) (s2,l2)=(aP (x.fdiv y),aP (x.fmod y),0):=by
     rw[e,e2];exact lf hx hy hy0
    rw[hm];clear hm
    cases e
    cases e2;have hlx:=fD hx;have hly:=fD hy;have hy0':(y.sign==0)=false:=by rw[beq_eq_false_iff_ne,Ne,Int.sign_eq_zero_iff_zero];exact hy0
    have hypos:0<y.natAbs:=by omega
    have h1:=dY x;have h2:=dY y;have hp:x.sign*y.sign=(x*y).sign:=(Yd x y).symm;have h3:=dY (x*y);have hw:IntKind.i64.wrap (x.sign*y.sign)=x.sign*y.sign:=by rw[hp];exact aj _ (by omega) (by omega)
    have hdiv:=BF x.natAbs y.natAbs ⟨by omega,by omega,hypos⟩
    simp only[digs] at hdiv;have hq:=mh (y:=y) hx hy0;have hr3:=AT (x:=x) hy hy0;have hlq:x.natAbs / y.natAbs<LIM:=Nat.lt_of_le_of_lt (X7 _ _) hx;have hlq':(dg (x.natAbs / y.natAbs)).length≤60:=dg_len.2 hlq;have hlr:x.natAbs % y.natAbs<LIM:=Nat.lt_trans (XV _ hypos) hy;have hlr':(dg (x.natAbs % y.natAbs)).length≤60:=dg_len.2 hlr
    by_cases hlow:x.sign*y.sign<0∧x.natAbs % y.natAbs≠0
    ·obtain⟨eq,er⟩:=ol hlow.1 hlow.2
     have hne:decide (((dg (x.natAbs % y.natAbs)).length:Int)>0)=true:=by
      have:dg (x.natAbs % y.natAbs)≠[]:=by rw[Ne,ni];exact hlow.2
      have:=List.length_pos_iff.2 this;exact decide_eq_true (by omega)
     have hneg:decide (x.sign*y.sign<0)=true:=decide_eq_true hlow.1;have hd1:dg 1=[1]:=by simp [dg,dgF]
     have hl1d:(dg 1).length=1:=by rw[hd1];rfl
     have hadd:=Bo (x.natAbs / y.natAbs) 1 ⟨by omega,by omega⟩
     simp only[digs,hd1,List.map_cons,Yc,aa] at hadd;have hsub:=uS y.natAbs (x.natAbs % y.natAbs) ⟨by omega,Ye (XV _ hypos)⟩
     simp only[digs] at hsub
     have hla:(dg (x.natAbs / y.natAbs+1)).length≤1000000:=by
      have:(x.natAbs / y.natAbs+1)<LIM:=by rw[eq] at hq;rw[Yf,X9] at hq;exact hq
      have:=(dg_len (k:=60)).2 this;omega
     have hlb:(dg (y.natAbs-x.natAbs % y.natAbs)).length≤1000000:=by have:=sJ y.natAbs (x.natAbs % y.natAbs);omega
     have hs1:eU (-1) (dg (x.natAbs / y.natAbs+1))=aP (x.fdiv y):=cX (by rw[eq,Yf,X9]) fun _=>by rw[eq,Yg,Yh (show (0:Int)<((x.natAbs / y.natAbs+1:Nat):Int) by exact Int.natCast_pos.2 (Nat.succ_pos _))]
     have hs2:eU y.sign (dg (y.natAbs-x.natAbs % y.natAbs))=aP (x.fmod y):=by
      refine cX ?_ fun hn=>?_
      ·rw[er];rcases cz y with ⟨e',h3⟩ | ⟨e',h3⟩ | ⟨e',h3⟩<;>rw[e']<;>omega
      ·rw[er,Yd,Yi,Yh (show (0:Int)<((y.natAbs-x.natAbs % y.natAbs:Nat):Int) by omega),X4]
     simp only[go_sem,go_sem_proc,Yb,al,iD,gd,gz,aK,hr,hr2,hl1,hl2,hy0',hw,hdiv,hne,hneg,hadd,hsub,hla,hlb,hs1,hs2,aa,Yj,bF,dj,cS]
     repeat' (first|refine qS ?_ ?_|fail)<;>intro h<;>simp only[h,go_sem,go_sem_proc,Yb,al,iD,gd,gz,aK,hr,hr2,hl1,hl2,hy0',hw,hdiv,hne,hneg,hadd,hsub,hla,hlb,hs1,hs2,aa,Yj,bF,dj,cS]
    ·obtain⟨eq,er⟩:=lz hy0 hlow
     have hlow':(decide (x.sign*y.sign<0)=true∧decide (((dg (x.natAbs % y.natAbs)).length:Int)>0)=false)∨decide (x.sign*y.sign<0)=false:=by
      by_cases hn:x.sign*y.sign<0
      ·left
       have:x.natAbs % y.natAbs=0:=Decidable.not_not.1 fun h=>hlow ⟨hn,h⟩
       rw[this];exact⟨decide_eq_true hn,rfl⟩
      ·right;exact decide_eq_false hn
     have hla:(dg (x.natAbs / y.natAbs)).length≤1000000:=by omega
     have hlb:(dg (x.natAbs % y.natAbs)).length≤1000000:=by omega
     have hs1:eU (x.sign*y.sign) (dg (x.natAbs / y.natAbs))=aP (x.fdiv y):=by
      refine cX ?_ fun hn=>?_
      ·rw[eq]
       have hgen:∀ Q:Nat,(x=0→Q=0)→(x.sign*y.sign*(Q:Int)).natAbs=Q:=by
        intro Q h0;rcases cz x with ⟨e,h1⟩ | ⟨e,h1⟩ | ⟨e,h1⟩<;>rcases cz y with ⟨e',h3⟩ | ⟨e',h3⟩ | ⟨e',h3⟩<;>rw[e,e']<;>first | omega | (rw[h0 h1];rfl)
       exact hgen _ fun h0=>by rw[h0];exact Nat.zero_div _
      ·rw[eq,hp,Yd,Yd,Yd,Yi,Yi,Yh (show (0:Int)<((x.natAbs / y.natAbs:Nat):Int) from Int.natCast_pos.2 (Yk hn)),X4]
     have hs2:eU x.sign (dg (x.natAbs % y.natAbs))=aP (x.fmod y):=by
      refine cX ?_ fun hn=>?_
      ·rw[er]
       have hgen:∀ Q:Nat,(x=0→Q=0)→(x.sign*(Q:Int)).natAbs=Q:=by
        intro Q h0;rcases cz x with ⟨e,h1⟩ | ⟨e,h1⟩ | ⟨e,h1⟩<;>rw[e]<;>first | omega | (rw[h0 h1];rfl)
       exact hgen _ fun h0=>by rw[h0];exact X5 _
      ·rw[er,Yd,Yi,Yh (show (0:Int)<((x.natAbs % y.natAbs:Nat):Int) from Int.natCast_pos.2 (Yk hn)),X4]
     rcases hlow' with ⟨hlow1,hlow2⟩ | hlow1
     ·simp only[go_sem,go_sem_proc,Yb,al,iD,gd,gz,aK,hr,hr2,hl1,hl2,hy0',hw,hdiv,hlow1,hlow2,hla,hlb,hs1,hs2,aa,Yj,bF,dj,cS]
      repeat' (first|refine qS ?_ ?_|fail)<;>intro h<;>simp only[h,go_sem,go_sem_proc,Yb,al,iD,gd,gz,aK,hr,hr2,hl1,hl2,hy0',hw,hdiv,hlow1,hlow2,hla,hlb,hs1,hs2,aa,Yj,bF,dj,cS]
     ·simp only[go_sem,go_sem_proc,Yb,al,iD,gd,gz,aK,hr,hr2,hl1,hl2,hy0',hw,hdiv,hlow1,hla,hlb,hs1,hs2,aa,Yj,bF,dj,cS]
      repeat' (first|refine qS ?_ ?_|fail)<;>intro h<;>simp only[h,go_sem,go_sem_proc,Yb,al,iD,gd,gz,aK,hr,hr2,hl1,hl2,hy0',hw,hdiv,hlow1,hla,hlb,hs1,hs2,aa,Yj,bF,dj,cS]
  ·have hr2:aI (s2,l2)=false:=by simpa using hr2
   have hm:jj (s,l) (s2,l2)=((0,[]),(0,[]),1):=by unfold jj;rw[hr2,Yl];rfl
   rw[hm];simp only[go_sem,go_sem_proc,Yb,al,iD,gd,gz,aK,hr,hr2,hl1,hl2,bF,dj,Yc]
   repeat' (first|refine qS ?_ ?_|fail)<;>intro h<;>simp only[h,go_sem,go_sem_proc,Yb,al,iD,gd,gz,aK,hr,hr2,hl1,hl2,bF,dj,Yc]
 ·have hr:aI (s,l)=false:=by simpa using hr
  have hm:jj (s,l) (s2,l2)=((0,[]),(0,[]),1):=by unfold jj;rw[hr,Ym];rfl
  rw[hm];simp only[go_sem,go_sem_proc,Yb,al,iD,gd,gz,aK,hr,hl1,hl2,bF,dj,Yc]
  repeat' (first|refine qS ?_ ?_|fail)<;>intro h<;>simp only[h,go_sem,go_sem_proc,Yb,al,iD,gd,gz,aK,hr,hl1,hl2,bF,dj,Yc]
def ca (n:Int):Prop:=-9223372036854775808≤n∧n≤9223372036854775807
theorem LV {n:Nat} (h:n≤9223372036854775808):n<LIM:=by
 unfold LIM;refine Nat.lt_of_lt_of_le (m:=1048576^4) ?_ (Nat.pow_le_pow_right (by omega) (by omega));omega
theorem jz {n:Int} (h:ca n):n.natAbs<LIM:=LV (by unfold ca at h;omega)
theorem ru (n:Int) (h1:-18446744073709551616≤n) (h2:n<0):IntKind.u64.wrap n=n+18446744073709551616:=by
 unfold IntKind.wrap;simp [IntKind.bits,IntKind.signed];omega
noncomputable def yJ:List Data→Option PRes:=FF (α:=Int) (fun (n:Int)=>([.int .i64 n]:List Data)) (fun (n:Int)=>aG (ca n) (.same (.agg (bF (aP n)))))
theorem zl:∀ a b:Int,(fun (n:Int)=>([.int .i64 n]:List Data)) a=(fun (n:Int)=>([.int .i64 n]:List Data)) b→a=b:=by
  intro n1 n2 h;simp only[List.cons.injEq,Data.int.injEq,Data.agg.injEq,Data.sl.injEq,Data.bool.injEq,Data.str.injEq,Data.ptr.injEq,Data.tup.injEq,Prod.mk.injEq,true_and,and_true] at h ⊢
  first | exact h | simpa [Yn,and_assoc] using h | grind
@[go_sem] theorem Of (n:Int) (hc:ca n):yJ [.int .i64 n]=some (.same (.agg (bF (aP n)))):=(aV zl n).trans (an hc _)
theorem Ms (T:Tab) (aK:T bB=mkE jK) (n:Int) (hc:ca n) :
  wp T mf_big_Of.body (bG mf_big_Of.res (.same (.agg (bF (aP n))))) ⟨ax [.dat (.int .i64 n)],emp⟩:=by
 refine ap ?_;simp only[mf_big_Of];have hc':=hc;unfold ca at hc';obtain⟨hn1,hn2⟩:=hc';have hs:∀ s:Int,(n≠0→s=n.sign)→eU s (dg n.natAbs)=aP n:=fun s h=>cX rfl fun hne=>h (by omega)
 have hlen:(dg n.natAbs).length≤60:=dg_len.2 (jz hc);rcases Yo (n<0) with hneg | hpos
 ·have hw:=ru n (by omega) hneg
  have hw2:IntKind.u64.wrap (0-(n+18446744073709551616))=(n.natAbs:Int):=by
   rw[ru _ (by omega) (by omega)];omega
  simp only[go_sem,go_sem_proc,Yb,aK,hneg,hw,hw2,decide_true];refine ae [2,3] [150002] (fun ((u,g,l):Nat × Nat × List Int) tm mem=>u≤9223372036854775808∧dg n.natAbs=l++dg u∧tm 4 = .dat (.int .u64 u)∧tm 5 = .ref 150021 g 1 0 l.length∧mem 150021=some (g,ay aa l)) (fun (u,_)=>u) (n.natAbs,0,[]) (by refine⟨by omega,rfl,?_,rfl,rfl⟩;rfl) ?_;intro vs ms hvs hms;simp only[go_sem,go_sem_proc,Yb,aK] at hvs hms;subst hvs hms;rintro⟨u,g,l⟩ tm mem hk hm ⟨hu,hd,h4,h5,hm21⟩;simp only[go_sem,go_sem_proc,Yb,aK,List.cons.injEq] at hk hm;obtain⟨h2,h3⟩:=hk;rcases XU u with h0 | hup
  ·subst h0
   rw[f8,Yp] at hd;rw[hd] at hs hlen;have hlen':l.length≤1000000:=by omega
   have hs':=hs (-1) (fun _=>by exact (Yq hneg).symm);simp only[go_sem,go_sem_proc,Yb,aK,h2,h3,h4,h5,hm,hm21,hs',hlen',bF,Yr,Ys,Yj,show ¬ ((0:Int)>0) by omega,decide_false,bO bc,Yt]
   repeat' (first|refine qS ?_ ?_|fail)<;>intro h<;>simp only[h,go_sem,go_sem_proc,Yb,aK,h2,h3,h4,h5,hm,hm21,hs',hlen',bF,Yr,Ys,Yj,show ¬ ((0:Int)>0) by omega,decide_false,bO bc,Yt]
  ·have hul:l.length≤60:=by
    have:=congrArg Yu hd;rw[Yv] at this;omega
   have hgt:decide ((u:Int)>0)=true:=decide_eq_true (by omega);have hap:∀ a:Int,lg 150021 g 1 l.length 8 1 [.dat (.int .i64 a)] (some (g,ay aa l))=_:=fun a=>dk bc fO 150021 g 8 l a rfl (by omega) (by omega)
   have hand:=w7 u ⟨by omega,by omega⟩
   have hcv:IntKind.i64.wrap ((u:Int) % 1048576)=(u:Int) % 1048576:=aj _ (by omega) (by omega);simp only[go_sem,go_sem_proc,Yb,aK,h2,h3,h4,h5,hm,hm21,hgt,hap,hand,hcv,fdivm,show ((20:Int)<0)=False from by simp,if_false,Yj,List.cons.injEq]
   repeat' (first|refine qS ?_ ?_|fail)<;>intro h<;>simp only[h,go_sem,go_sem_proc,Yb,aK,h2,h3,h4,h5,hm,hm21,hgt,hap,hand,hcv,fdivm,show ((20:Int)<0)=False from by simp,if_false,Yj,List.cons.injEq]
   refine⟨(u / 1048576,g+1,l++[(u:Int) % 1048576]),by dsimp only;omega,by dsimp only;omega,by dsimp only;rw[Yw,hd,jV hup];rfl,by first | rfl | (dsimp only;rw[kt _ ⟨by omega,by omega⟩];rfl),by simp,by simp [go_sem]⟩
 ·have hw:IntKind.u64.wrap n=(n.natAbs:Int):=by rw[kt _ ⟨by omega,by omega⟩];omega
  simp only[go_sem,go_sem_proc,Yb,aK,hpos,hw,decide_false];refine ae [2,3] [150002] (fun ((u,g,l):Nat × Nat × List Int) tm mem=>u≤9223372036854775808∧dg n.natAbs=l++dg u∧tm 4 = .dat (.int .u64 u)∧tm 5 = .ref 150021 g 1 0 l.length∧mem 150021=some (g,ay aa l)) (fun (u,_)=>u) (n.natAbs,0,[]) (by refine⟨by omega,rfl,?_,rfl,rfl⟩;rfl) ?_;intro vs ms hvs hms;simp only[go_sem,go_sem_proc,Yb,aK] at hvs hms;subst hvs hms;rintro⟨u,g,l⟩ tm mem hk hm ⟨hu,hd,h4,h5,hm21⟩;simp only[go_sem,go_sem_proc,Yb,aK,List.cons.injEq] at hk hm;obtain⟨h2,h3⟩:=hk;rcases XU u with h0 | hup
  ·subst h0
   rw[f8,Yp] at hd;rw[hd] at hs hlen;have hlen':l.length≤1000000:=by omega
   have hs':=hs 1 (fun _=>by exact (Yh (by omega)).symm);simp only[go_sem,go_sem_proc,Yb,aK,h2,h3,h4,h5,hm,hm21,hs',hlen',bF,Yr,Ys,Yj,show ¬ ((0:Int)>0) by omega,decide_false,bO bc,Yt]
   repeat' (first|refine qS ?_ ?_|fail)<;>intro h<;>simp only[h,go_sem,go_sem_proc,Yb,aK,h2,h3,h4,h5,hm,hm21,hs',hlen',bF,Yr,Ys,Yj,show ¬ ((0:Int)>0) by omega,decide_false,bO bc,Yt]
  ·have hul:l.length≤60:=by
    have:=congrArg Yu hd;rw[Yv] at this;omega
   have hgt:decide ((u:Int)>0)=true:=decide_eq_true (by omega);have hap:∀ a:Int,lg 150021 g 1 l.length 8 1 [.dat (.int .i64 a)] (some (g,ay aa l))=_:=fun a=>dk bc fO 150021 g 8 l a rfl (by omega) (by omega)
   have hand:=w7 u ⟨by omega,by omega⟩
   have hcv:IntKind.i64.wrap ((u:Int) % 1048576)=(u:Int) % 1048576:=aj _ (by omega) (by omega);simp only[go_sem,go_sem_proc,Yb,aK,h2,h3,h4,h5,hm,hm21,hgt,hap,hand,hcv,fdivm,show ((20:Int)<0)=False from by simp,if_false,Yj,List.cons.injEq]
   repeat' (first|refine qS ?_ ?_|fail)<;>intro h<;>simp only[h,go_sem,go_sem_proc,Yb,aK,h2,h3,h4,h5,hm,hm21,hgt,hap,hand,hcv,fdivm,show ((20:Int)<0)=False from by simp,if_false,Yj,List.cons.injEq]
   refine⟨(u / 1048576,g+1,l++[(u:Int) % 1048576]),by dsimp only;omega,by dsimp only;omega,by dsimp only;rw[Yw,hd,jV hup];rfl,by first | rfl | (dsimp only;rw[kt _ ⟨by omega,by omega⟩];rfl),by simp,by simp [go_sem]⟩
theorem yL (k:IntKind) (a b:Int):bits .or k a b=bits .or k b a:=by
 simp only[bits,BitVec.or_comm]
theorem N7 (u d:Int) (i:Nat) (hi:(2:Int)^i≤1152921504606846976) (hu:0≤u∧u<2^i) (hd:0≤d) (h:d*2^i<18446744073709551616):bits .or .u64 u (d*2^i)=u+d*2^i:=by
 rw[yL,Int.add_comm];have h0:0≤d*2^i:=Yx hd (by exact Yy (Yz (by omega)));refine bits_join .u64 64 (by decide) (fun n h1 h2=>kt n ⟨h1,by omega⟩) i _ _ h0 (Int.mul_emod_left _ _) (by omega) hu.1 hu.2 (by omega)
instance (n:Int):Decidable (ca n):=by unfold ca;exact inferInstance
def qW (a:Raw):Int × Bool:=if aI a=true∧ca (gM a) then (gM a,true) else (0,false)
noncomputable def u9:List Data→Option PRes:=FF (α:=Int × (List Int)) (fun (s,l)=>([.agg [.int .i64 s,.sl (l.map aa)]]:List Data)) (fun (s,l)=>aG (l.length≤1000000) (.same (.tup [.int .i64 (qW (s,l)).1,.bool (qW (s,l)).2])))
theorem yO:∀ a b:Int × (List Int),(fun (s,l)=>([.agg [.int .i64 s,.sl (l.map aa)]]:List Data)) a=(fun (s,l)=>([.agg [.int .i64 s,.sl (l.map aa)]]:List Data)) b→a=b:=by
  rintro⟨s1,l1⟩ ⟨s2,l2⟩ h;simp only[List.cons.injEq,Data.agg.injEq,Data.int.injEq,Data.sl.injEq] at h;exact Ya h.1.1.2 (af ai _ _ h.1.2.1)
@[go_sem] theorem No (s:Int) (l:List Int) (hc:l.length≤1000000):u9 [.agg [.int .i64 s,.sl (l.map aa)]]=some (.same (.tup [.int .i64 (qW (s,l)).1,.bool (qW (s,l)).2])):=(aV yO (s,l)).trans (an hc _)
theorem Ij (T:Tab) (al:T aY=mkE d8) (s:Int) (l:List Int) (hc:l.length≤1000000) :
  wp T mf_big_Int.body (bG mf_big_Int.res (.same (.tup [.int .i64 (qW (s,l)).1,.bool (qW (s,l)).2]))) ⟨ax [.dat (.agg [.int .i64 s,.sl (l.map aa)])],emp⟩:=by
 refine ap ?_;simp only[mf_big_Int]
 by_cases hr:aI (s,l)=true
 ·obtain⟨z,hz,e⟩:=(bj _).1 hr
  cases e
  have hi:qW (z.sign,dg z.natAbs)=if ca z then (z,true) else (0,false):=by
   unfold qW;rw[hr,show gM (z.sign,dg z.natAbs)=z from aQ z];simp
  rw[hi];clear hi;have hs:=cz z
  by_cases h4:(dg z.natAbs).length≤4
  ·have h4':decide (((dg z.natAbs).length:Int)>4)=false:=decide_eq_false (by omega)
   have hvl:=f7 z.natAbs;have hD:=eB z.natAbs;generalize dg z.natAbs=l at *;simp only[go_sem,go_sem_proc,Yb,al,hr,hc,h4',Yj,aa];refine ae [1,17,18] [159001] (fun ((i,u):Nat × Int) tm mem=>i≤l.length∧u=vl (l.take i)∧u<18446744073709551616∧tm 4 = .dat (.int .u64 u)∧tm 19 = .dat (.int .i64 i)) (fun (i,_)=>l.length-i) (0,0) (by refine⟨by omega,rfl,by omega,rfl,rfl⟩) ?_;intro vs ms hvs hms;simp only[go_sem,go_sem_proc,Yb,al] at hvs hms;subst hvs hms;rintro⟨i,u⟩ tm mem hk hm ⟨hi,hu,hu64,ht4,ht19⟩;simp only[go_sem,go_sem_proc,Yb,al,List.cons.injEq] at hk hm;obtain⟨h1,h17,h18⟩:=hk;have hDt:isD (l.take i):=fun d hd=>hD d (List.mem_of_mem_take hd)
   have hu0:0≤u:=by rw[hu];exact cP hDt
   rcases Yo (i<l.length) with hlt | hge
   ·have hx:=List.getElem?_eq_getElem hlt
    have hd:=hD l[i] (List.getElem_mem hlt);have hstep:=ba l i hlt;have hub:=qn hDt;rw[List.length_take,Nat.min_eq_left (Ye hlt),←hu] at hub;rw[←hu] at hstep;generalize l[i]=d at *;have hltd:decide ((i:Int)<(l.length:Int))=true:=decide_eq_true (by omega);have hwd:IntKind.u64.wrap d=d:=kt d ⟨hd.1,by omega⟩
    have hw20:IntKind.i64.wrap (20*(i:Int))=((20*i:Nat):Int):=by rw[aj _ (by omega) (by omega)];omega
    have hmin:min (20*i) 64=20*i:=by omega
    have hn0:(((20*i:Nat):Int)<0)=False:=eq_false (by omega);have hpow:(1048576:Int)^i=2^(20*i):=by rw[Int.pow_mul];rfl
    rw[hpow] at hub hstep
    have hpl:(2:Int)^(20*i)≤1152921504606846976:=by
     obtain rfl | rfl | rfl | rfl:i=0∨i=1∨i=2∨i=3:=by omega
     all_goals decide
    by_cases hbig:i=3∧d>8
    ·obtain⟨rfl,hd8⟩:=hbig
     have hd8':decide (d>8)=true:=decide_eq_true hd8;have h33:(((3:Nat):Int)==3)=true:=rfl
     have hni:¬ ca z:=by
      have htd:=i6 l 4;rw[hvl] at htd;have:0≤vl (l.drop 4):=cP fun d hd=>hD d (List.mem_of_mem_drop hd)
      have h5:=Yx (show (0:Int)≤1048576^(min 4 l.length) from Yy (Yz (by omega))) this;unfold ca;simp only[YA,Nat.reduceAdd,YB] at hstep;rw[hstep] at htd;omega
     rw[if_neg hni];simp only[go_sem,go_sem_proc,Yb,al,h1,h17,h18,ht4,ht19,hm,hx,hd.1,hd.2,hltd,hwd,hd8',h33,Yj,YC,List.cons.injEq,aa]
     repeat' (first|refine qS ?_ ?_|fail)<;>intro h<;>simp only[h,go_sem,go_sem_proc,Yb,al,h1,h17,h18,ht4,ht19,hm,hx,hd.1,hd.2,hltd,hwd,hd8',h33,Yj,YC,List.cons.injEq,aa]
    ·have hdb:d*2^(20*i)<18446744073709551616:=by
      obtain rfl | rfl | rfl | rfl:i=0∨i=1∨i=2∨i=3:=by omega
      all_goals simp
      all_goals omega
     have hor:=N7 u d (20*i) hpl ⟨hu0,hub⟩ hd.1 hdb;have hdm:0≤d*2^(20*i):=Yx hd.1 (Yy (Yz (by omega)));have hwm:IntKind.u64.wrap (d*2^(20*i))=d*2^(20*i):=kt _ ⟨hdm,hdb⟩
     have hsum:u+d*2^(20*i)<18446744073709551616:=by
      clear hor hwm hdm hw20 hn0 hpow hpl hstep;obtain rfl | rfl | rfl | rfl:i=0∨i=1∨i=2∨i=3:=by omega
      all_goals simp only[YA,YB] at hub hdb ⊢
      all_goals omega
     by_cases h3:((i:Int)==3)=true
     ·have hd8:decide (d>8)=false:=decide_eq_false fun h=>hbig ⟨by simp at h3;omega,h⟩
      simp only[go_sem,go_sem_proc,Yb,al,h1,h17,h18,ht4,ht19,hm,hx,hd.1,hd.2,hltd,hwd,h3,hd8,hw20,hn0,if_false,YD,hmin,hwm,hor,Yj,YC,List.cons.injEq,aa]
      repeat' (first|refine qS ?_ ?_|fail)<;>intro h<;>simp only[h,go_sem,go_sem_proc,Yb,al,h1,h17,h18,ht4,ht19,hm,hx,hd.1,hd.2,hltd,hwd,h3,hd8,hw20,hn0,if_false,YD,hmin,hwm,hor,Yj,YC,List.cons.injEq,aa]
      exact⟨(i+1,u+d*2^(20*i)),by dsimp only;omega,by dsimp only;omega,by dsimp only;rw[hstep,YE],hsum,rfl,by rw[aj _ (by omega) (by omega)];rfl⟩
     ·have h3:((i:Int)==3)=false:=by simpa using h3
      simp only[go_sem,go_sem_proc,Yb,al,h1,h17,h18,ht4,ht19,hm,hx,hd.1,hd.2,hltd,hwd,h3,hw20,hn0,if_false,YD,hmin,hwm,hor,Yj,YC,List.cons.injEq,aa]
      repeat' (first|refine qS ?_ ?_|fail)<;>intro h<;>simp only[h,go_sem,go_sem_proc,Yb,al,h1,h17,h18,ht4,ht19,hm,hx,hd.1,hd.2,hltd,hwd,h3,hw20,hn0,if_false,YD,hmin,hwm,hor,Yj,YC,List.cons.injEq,aa]
      exact⟨(i+1,u+d*2^(20*i)),by dsimp only;omega,by dsimp only;omega,by dsimp only;rw[hstep,YE],hsum,rfl,by rw[aj _ (by omega) (by omega)];rfl⟩
   ·have hltd:decide ((i:Int)<(l.length:Int))=false:=decide_eq_false (by omega)
    have hil:i=l.length:=by omega
    rw[hil,Yt,hvl] at hu;rcases hs with ⟨hs,hz0⟩ | ⟨hs,hz0⟩ | ⟨hs,hz0⟩
    ·by_cases hr64:u<9223372036854775808
     ·rw[if_pos (by unfold ca;omega)]
      have hw:IntKind.i64.wrap u=z:=by rw[aj u (by omega) (by omega)];omega
      simp only[go_sem,go_sem_proc,Yb,al,h1,h17,h18,ht4,ht19,hm,hltd,hs,hr64,show decide ((1:Int)<0)=false from rfl,show decide ((1:Int)≥0)=true from rfl,show decide ((-1:Int)<0)=true from rfl,show decide ((-1:Int)≥0)=false from rfl,hw,decide_true,decide_false,Yj]
      repeat' (first|refine qS ?_ ?_|fail)<;>intro h<;>simp only[h,go_sem,go_sem_proc,Yb,al,h1,h17,h18,ht4,ht19,hm,hltd,hs,hr64,show decide ((1:Int)<0)=false from rfl,show decide ((1:Int)≥0)=true from rfl,show decide ((-1:Int)<0)=true from rfl,show decide ((-1:Int)≥0)=false from rfl,hw,decide_true,decide_false,Yj]
     ·rw[if_neg (by unfold ca;omega)]
      simp only[go_sem,go_sem_proc,Yb,al,h1,h17,h18,ht4,ht19,hm,hltd,hs,hr64,show decide ((1:Int)<0)=false from rfl,show decide ((1:Int)≥0)=true from rfl,show decide ((-1:Int)<0)=true from rfl,show decide ((-1:Int)≥0)=false from rfl,decide_true,decide_false,Yj]
      repeat' (first|refine qS ?_ ?_|fail)<;>intro h<;>simp only[h,go_sem,go_sem_proc,Yb,al,h1,h17,h18,ht4,ht19,hm,hltd,hs,hr64,show decide ((1:Int)<0)=false from rfl,show decide ((1:Int)≥0)=true from rfl,show decide ((-1:Int)<0)=true from rfl,show decide ((-1:Int)≥0)=false from rfl,decide_true,decide_false,Yj]
    ·rw[if_pos (by unfold ca;omega)]
     have hu0':u=0:=by omega
     subst hz0;subst hu0';simp only[go_sem,go_sem_proc,Yb,al,h1,h17,h18,ht4,ht19,hm,hltd,hs,show decide ((0:Int)<0)=false from rfl,show decide ((0:Int)≥0)=true from rfl,show decide ((0:Int)<9223372036854775808)=true from rfl,show IntKind.i64.wrap 0=0 from rfl,show (0:Int).sign=0 from rfl,decide_true,decide_false,Yj]
     repeat' (first|refine qS ?_ ?_|fail)<;>intro h<;>simp only[h,go_sem,go_sem_proc,Yb,al,h1,h17,h18,ht4,ht19,hm,hltd,hs,show decide ((0:Int)<0)=false from rfl,show decide ((0:Int)≥0)=true from rfl,show decide ((0:Int)<9223372036854775808)=true from rfl,show IntKind.i64.wrap 0=0 from rfl,show (0:Int).sign=0 from rfl,decide_true,decide_false,Yj]
    ·by_cases hr64:u≤9223372036854775808
     ·rw[if_pos (by unfold ca;omega)]
      have hw:=ru (0-u) (by omega) (by omega)
      have hw2:IntKind.i64.wrap (0-u+18446744073709551616)=z:=by
       simp [IntKind.wrap,IntKind.bits,IntKind.signed];omega
      simp only[go_sem,go_sem_proc,Yb,al,h1,h17,h18,ht4,ht19,hm,hltd,hs,hr64,show decide ((1:Int)<0)=false from rfl,show decide ((1:Int)≥0)=true from rfl,show decide ((-1:Int)<0)=true from rfl,show decide ((-1:Int)≥0)=false from rfl,hw,hw2,decide_true,decide_false,Yj]
      repeat' (first|refine qS ?_ ?_|fail)<;>intro h<;>simp only[h,go_sem,go_sem_proc,Yb,al,h1,h17,h18,ht4,ht19,hm,hltd,hs,hr64,show decide ((1:Int)<0)=false from rfl,show decide ((1:Int)≥0)=true from rfl,show decide ((-1:Int)<0)=true from rfl,show decide ((-1:Int)≥0)=false from rfl,hw,hw2,decide_true,decide_false,Yj]
     ·rw[if_neg (by unfold ca;omega)]
      simp only[go_sem,go_sem_proc,Yb,al,h1,h17,h18,ht4,ht19,hm,hltd,hs,hr64,show decide ((1:Int)<0)=false from rfl,show decide ((1:Int)≥0)=true from rfl,show decide ((-1:Int)<0)=true from rfl,show decide ((-1:Int)≥0)=false from rfl,decide_true,decide_false,Yj]
      repeat' (first|refine qS ?_ ?_|fail)<;>intro h<;>simp only[h,go_sem,go_sem_proc,Yb,al,h1,h17,h18,ht4,ht19,hm,hltd,hs,hr64,show decide ((1:Int)<0)=false from rfl,show decide ((1:Int)≥0)=true from rfl,show decide ((-1:Int)<0)=true from rfl,show decide ((-1:Int)≥0)=false from rfl,decide_true,decide_false,Yj]
  ·have h4':decide (((dg z.natAbs).length:Int)>4)=true:=decide_eq_true (by omega)
   have hn:¬ ca z:=by
    intro h;unfold ca at h;refine h4 (dg_len.2 ?_);omega
   rw[if_neg hn];simp only[go_sem,go_sem_proc,Yb,al,hr,hc,h4',Yj]
   repeat' (first|refine qS ?_ ?_|fail)<;>intro h<;>simp only[h,go_sem,go_sem_proc,Yb,al,hr,hc,h4',Yj]
 ·have hr:aI (s,l)=false:=by simpa using hr
  have hi:qW (s,l)=(0,false):=by unfold qW;rw[if_neg];rw[hr];simp
  rw[hi];simp only[go_sem,go_sem_proc,Yb,al,hr,hc]
  repeat' (first|refine qS ?_ ?_|fail)<;>intro h<;>simp only[h,go_sem,go_sem_proc,Yb,al,hr,hc]
def mf_frac_Right:MFunc :=
 { n:=35,np:=1,res:=[.t 2],body :=
 (.seq (.ops [
 Zk 1 116001 0,Zb 2 false])
 (.seq (.seq (.ops [
 Zf 5 0 1,Zu 6 2 5,⟨some 7,none,.call aY [(.t 6)]⟩,Zt 8 7,Zv 9 8,⟨some 10,some (9,false),.fad 2 (.t 1)⟩,⟨some 11,some (9,false),.load 2 true (.t 10)⟩,⟨some 12,some (9,false),.call aY [(.t 11)]⟩,⟨some 13,some (9,false),.un .not (.t 12)⟩,Zp 14 9 13,Zv 15 14,⟨some 16,some (15,false),.fad 2 (.t 1)⟩,⟨some 17,some (15,false),.fad 0 (.t 16)⟩,⟨some 18,some (15,false),.load 1 false (.t 17)⟩,⟨some 19,some (15,false),.bin .neq (.t 18) (.c (ZI 1))⟩,Zp 20 15 19])
 (.cond (.t 20)
 (.seq (.ops [
 Zb 2 false])
 .ret)
 .skip))
 (.seq (.ops [
 Zf 22 0 1,Zu 23 2 22,Zf 24 2 1,Zu 25 2 24,⟨some 26,none,.call kE [(.t 23),(.t 25)]⟩,Zv 21 26,Zx 27 0 21,Zx 28 1 21,⟨some 3,none,.alloc 116003 [(ZI 0),.nil]⟩,Zs 2 3 27,Zv 4 28])
 (.seq (.ops [
 Zv 29 4,Zc 30 .eql 29 0,Zv 31 30,⟨some 32,some (31,true),.load 2 true (.t 3)⟩,⟨some 33,some (31,true),.call nB [(.t 32)]⟩,Zq 34 31 33,Zv 2 34])
 .ret)))) }
def mf_frac_Add:MFunc :=
 { n:=46,np:=2,res:=[.cell 4 4 true,.t 5],body :=
 (.seq (.ops [
 Zk 2 119002 0,Zk 3 119003 1,⟨some 4,none,.alloc 119004 [(ZI 0),.nil,(ZI 0),.nil]⟩,Zi 5 0])
 (.seq (.seq (.ops [
 Zu 10 4 2,⟨some 11,none,.call bb [(.t 10)]⟩,Zt 12 11,Zv 13 12,⟨some 14,some (13,false),.load 4 true (.t 3)⟩,⟨some 15,some (13,false),.call bb [(.t 14)]⟩,⟨some 16,some (13,false),.un .not (.t 15)⟩,Zp 17 13 16])
 (.cond (.t 17)
 (.seq (.ops [
 ⟨some 18,none,.build [(ZI 0),.nil,(ZI 0),.nil] []⟩,Zs 4 4 18,Zi 5 1])
 .ret)
 .skip))
 (.seq (.ops [
 Zf 20 0 2,Zu 21 2 20,Zf 22 2 3,Zu 23 2 22,Zf 24 0 3,Zu 25 2 24,Zf 26 2 2,Zu 27 2 26,⟨some 28,none,.call nD [(.t 21),(.t 23),(.t 25),(.t 27)]⟩,Zv 19 28,Zx 29 0 19,Zx 30 1 19,⟨some 6,none,.alloc 119006 [(ZI 0),.nil]⟩,Zs 2 6 29,Zv 7 30])
 (.seq (.ops [
 Zf 32 2 2,Zu 33 2 32,Zf 34 2 3,Zu 35 2 34,⟨some 36,none,.call dN [(.t 33),(.t 35)]⟩,Zv 31 36,Zx 37 0 31,Zx 38 1 31,⟨some 8,none,.alloc 119008 [(ZI 0),.nil]⟩,Zs 2 8 37,Zv 9 38])
 (.seq (.ops [
 Zu 39 2 6,Zv 40 7,Zu 41 2 8,Zv 42 9,⟨some 43,none,.call dB [(.t 39),(.t 40),(.t 41),(.t 42)]⟩,Zx 44 0 43,Zx 45 1 43,Zs 4 4 44,Zv 5 45])
 .ret))))) }
def mf_frac_Of:MFunc :=
 { n:=13,np:=2,res:=[.cell 4 4 true,.t 5],body :=
 (.seq (.ops [
 ⟨some 4,none,.alloc 130004 [(ZI 0),.nil,(ZI 0),.nil]⟩,Zi 5 0])
 (.seq (.ops [
 Zv 6 0,⟨some 7,none,.call oD [(.t 6)]⟩,Zv 8 1,⟨some 9,none,.call oD [(.t 8)]⟩,⟨some 10,none,.call jU [(.t 7),(.t 9)]⟩,Zx 11 0 10,Zx 12 1 10,Zs 4 4 11,Zv 5 12])
 .ret)) }
def mf_frac_Sub:MFunc :=
 { n:=25,np:=2,res:=[.cell 4 4 true,.t 5],body :=
 (.seq (.ops [
 Zk 2 132002 0,Zk 3 132003 1,⟨some 4,none,.alloc 132004 [(ZI 0),.nil,(ZI 0),.nil]⟩,Zi 5 0])
 (.seq (.seq (.ops [
 Zu 6 4 2,⟨some 7,none,.call bb [(.t 6)]⟩,Zt 8 7,Zv 9 8,⟨some 10,some (9,false),.load 4 true (.t 3)⟩,⟨some 11,some (9,false),.call bb [(.t 10)]⟩,⟨some 12,some (9,false),.un .not (.t 11)⟩,Zp 13 9 12])
 (.cond (.t 13)
 (.seq (.ops [
 ⟨some 14,none,.build [(ZI 0),.nil,(ZI 0),.nil] []⟩,Zs 4 4 14,Zi 5 1])
 .ret)
 .skip))
 (.seq (.opsD [
 Zu 15 4 2,Zf 16 0 3,Zu 17 2 16,⟨some 18,none,.call jr [(.t 17)]⟩,Zf 19 2 3,Zu 20 2 19,⟨some 21,none,.build [(ZI 0),.nil,(ZI 0),.nil] [(0,2,(.t 18)),(2,2,(.t 20))]⟩,⟨some 22,none,.call fy [(.t 15),(.t 21)]⟩,Zx 23 0 22,Zx 24 1 22,Zs 4 4 23,Zv 5 24] [[],[],[],[],[],[],[],[],[],[],[],[]])
 .ret))) }
def mf_frac_Mul:MFunc :=
 { n:=42,np:=2,res:=[.cell 4 4 true,.t 5],body :=
 (.seq (.ops [
 Zk 2 134002 0,Zk 3 134003 1,⟨some 4,none,.alloc 134004 [(ZI 0),.nil,(ZI 0),.nil]⟩,Zi 5 0])
 (.seq (.seq (.ops [
 Zu 10 4 2,⟨some 11,none,.call bb [(.t 10)]⟩,Zt 12 11,Zv 13 12,⟨some 14,some (13,false),.load 4 true (.t 3)⟩,⟨some 15,some (13,false),.call bb [(.t 14)]⟩,⟨some 16,some (13,false),.un .not (.t 15)⟩,Zp 17 13 16])
 (.cond (.t 17)
 (.seq (.ops [
 ⟨some 18,none,.build [(ZI 0),.nil,(ZI 0),.nil] []⟩,Zs 4 4 18,Zi 5 1])
 .ret)
 .skip))
 (.seq (.ops [
 Zf 20 0 2,Zu 21 2 20,Zf 22 0 3,Zu 23 2 22,⟨some 24,none,.call dN [(.t 21),(.t 23)]⟩,Zv 19 24,Zx 25 0 19,Zx 26 1 19,⟨some 6,none,.alloc 134006 [(ZI 0),.nil]⟩,Zs 2 6 25,Zv 7 26])
 (.seq (.ops [
 Zf 28 2 2,Zu 29 2 28,Zf 30 2 3,Zu 31 2 30,⟨some 32,none,.call dN [(.t 29),(.t 31)]⟩,Zv 27 32,Zx 33 0 27,Zx 34 1 27,⟨some 8,none,.alloc 134008 [(ZI 0),.nil]⟩,Zs 2 8 33,Zv 9 34])
 (.seq (.ops [
 Zu 35 2 6,Zv 36 7,Zu 37 2 8,Zv 38 9,⟨some 39,none,.call dB [(.t 35),(.t 36),(.t 37),(.t 38)]⟩,Zx 40 0 39,Zx 41 1 39,Zs 4 4 40,Zv 5 41])
 .ret))))) }
def mf_frac_Compare:MFunc :=
 { n:=78,np:=2,res:=[.t 4],body :=
 (.seq (.ops [
 Zk 2 135002 0,Zk 3 135003 1,Zi 4 0])
 (.seq (.seq (.ops [
 Zu 17 4 2,⟨some 18,none,.call bb [(.t 17)]⟩,Zt 19 18,Zv 20 19,⟨some 21,some (20,false),.load 4 true (.t 3)⟩,⟨some 22,some (20,false),.call bb [(.t 21)]⟩,⟨some 23,some (20,false),.un .not (.t 22)⟩,Zp 24 20 23])
 (.cond (.t 24)
 (.seq (.ops [
 Zi 4 0])
 .ret)
 .skip))
 (.seq (.opsD [
 Zf 25 0 2,Zu 26 2 25,Zf 27 2 2,Zu 28 2 27,Zf 29 0 3,Zu 30 2 29,Zf 31 2 3,Zu 32 2 31,⟨some 5,none,.alloc 135005 [(ZI 0),.nil]⟩,⟨some 6,none,.alloc 135006 [(ZI 0),.nil]⟩,⟨some 7,none,.alloc 135007 [(ZI 0),.nil]⟩,⟨some 8,none,.alloc 135008 [(ZI 0),.nil]⟩,Zs 2 5 26,Zs 2 6 28,Zs 2 7 30,Zs 2 8 32] [[],[],[],[],[],[],[],[],[1,3,5,7],[1,3,5,7,8],[1,3,5,7,8,9],[1,3,5,7,8,9,10],[3,5,7],[5,7],[7],[]])
 (.seq (.ops [
 Zi 9 1])
 (.block 0
 (.loop
 (.seq (.block 1
 (.seq (.ops [
 Zu 36 2 5,Zu 37 2 6,⟨some 38,none,.call io [(.t 36),(.t 37)]⟩,Zv 35 38,Zx 39 0 35,Zx 40 1 35,Zx 41 2 35,⟨some 10,none,.alloc 135010 [(ZI 0),.nil]⟩,⟨some 11,none,.alloc 135011 [(ZI 0),.nil]⟩,Zs 2 10 39,Zs 2 11 40,Zv 12 41])
 (.seq (.ops [
 Zu 43 2 7,Zu 44 2 8,⟨some 45,none,.call io [(.t 43),(.t 44)]⟩,Zv 42 45,Zx 46 0 42,Zx 47 1 42,Zx 48 2 42,⟨some 13,none,.alloc 135013 [(ZI 0),.nil]⟩,⟨some 14,none,.alloc 135014 [(ZI 0),.nil]⟩,Zs 2 13 46,Zs 2 14 47,Zv 15 48])
 (.seq (.seq (.ops [
 Zu 49 2 10,Zu 50 2 13,⟨some 51,none,.call lc [(.t 49),(.t 50)]⟩,Zv 16 51])
 (.block 2
 (.seq (.ops [
 Zv 53 16,Zc 54 .neq 53 0,Zv 52 54])
 (.cond (.t 52)
 (.seq (.ops [
 Zv 55 9,Zv 56 16,Zo 57 .mul 55 56,Zv 4 57])
 .ret)
 (.seq (.ops [
 Zf 59 0 11,Zl 60 1 59,Zc 61 .eql 60 0,Zv 62 61,⟨some 63,some (62,false),.fad 0 (.t 14)⟩,⟨some 64,some (62,false),.load 1 false (.t 63)⟩,⟨some 65,some (62,false),.bin .eql (.t 64) (.c (ZI 0))⟩,Zp 66 62 65,Zv 58 66])
 (.cond (.t 58)
 (.seq (.ops [
 Zv 67 9,Zf 68 0 11,Zl 69 1 68,Zf 70 0 14,Zl 71 1 70,Zo 72 .sub 69 71,Zo 73 .mul 67 72,Zv 4 73])
 .ret)
 .skip))))))
 (.opsD [
 Zu 74 2 6,Zu 75 2 11,Zu 76 2 8,Zu 77 2 14,Zs 2 5 74,Zs 2 6 75,Zs 2 7 76,Zs 2 8 77] [[],[],[],[],[1,2,3],[2,3],[3],[]])))))
 (.ops [
 Zv 33 9,⟨some 34,none,.un .neg (.t 33)⟩,Zv 9 34])))))))) }
def mf_frac_one:MFunc :=
 { n:=15,np:=1,res:=[.t 2],body :=
 (.seq (.ops [
 Zk 1 138001 0,Zb 2 false])
 (.seq (.ops [
 Zu 6 2 1,⟨some 7,none,.call pj [(.t 6)]⟩,Zv 5 7,Zx 8 0 5,Zx 9 1 5,Zv 3 8,Zv 4 9])
 (.seq (.ops [
 Zv 10 4,Zv 11 10,⟨some 12,some (11,true),.mv (.t 3)⟩,⟨some 13,some (11,true),.bin .eql (.t 12) (.c (ZI 1))⟩,Zq 14 11 13,Zv 2 14])
 .ret))) }
def mf_frac_sum:MFunc :=
 { n:=38,np:=4,res:=[.cell 8 2 true,.t 9],body :=
 (.seq (.ops [
 Zk 4 139004 0,Zk 5 139005 1,Zk 6 139006 2,Zk 7 139007 3,⟨some 8,none,.alloc 139008 [(ZI 0),.nil]⟩,Zi 9 0])
 (.seq (.ops [
 Zu 14 2 4,Zu 15 2 5,⟨some 16,none,.call dN [(.t 14),(.t 15)]⟩,Zv 13 16,Zx 17 0 13,Zx 18 1 13,⟨some 10,none,.alloc 139010 [(ZI 0),.nil]⟩,Zs 2 10 17,Zv 11 18])
 (.seq (.seq (.ops [
 Zv 19 11,Zc 20 .neq 19 0])
 (.cond (.t 20)
 (.seq (.ops [
 ⟨some 21,none,.build [(ZI 0),.nil] []⟩,Zv 22 11,Zs 2 8 21,Zv 9 22])
 .ret)
 .skip))
 (.seq (.ops [
 Zu 24 2 6,Zu 25 2 7,⟨some 26,none,.call dN [(.t 24),(.t 25)]⟩,Zv 23 26,Zx 27 0 23,Zx 28 1 23,⟨some 12,none,.alloc 139012 [(ZI 0),.nil]⟩,Zs 2 12 27,Zv 11 28])
 (.seq (.seq (.ops [
 Zv 29 11,Zc 30 .neq 29 0])
 (.cond (.t 30)
 (.seq (.ops [
 ⟨some 31,none,.build [(ZI 0),.nil] []⟩,Zv 32 11,Zs 2 8 31,Zv 9 32])
 .ret)
 .skip))
 (.seq (.ops [
 Zu 33 2 10,Zu 34 2 12,⟨some 35,none,.call px [(.t 33),(.t 34)]⟩,Zx 36 0 35,Zx 37 1 35,Zs 2 8 36,Zv 9 37])
 .ret)))))) }
def mf_frac_quotient:MFunc :=
 { n:=22,np:=4,res:=[.cell 8 4 true,.t 9],body :=
 (.seq (.ops [
 Zk 4 141004 0,Zk 6 141006 2,⟨some 8,none,.alloc 141008 [(ZI 0),.nil,(ZI 0),.nil]⟩,Zi 9 0])
 (.seq (.seq (.ops [
 Zv 10 1,Zc 11 .neq 10 0,Zv 12 11,⟨some 13,some (12,false),.mv (.t 3)⟩,⟨some 14,some (12,false),.bin .neq (.t 13) (.c (ZI 0))⟩,Zp 15 12 14])
 (.cond (.t 15)
 (.seq (.ops [
 ⟨some 16,none,.build [(ZI 0),.nil,(ZI 0),.nil] []⟩,Zs 4 8 16,Zi 9 6])
 .ret)
 .skip))
 (.seq (.ops [
 Zu 17 2 4,Zu 18 2 6,⟨some 19,none,.call jU [(.t 17),(.t 18)]⟩,Zx 20 0 19,Zx 21 1 19,Zs 4 8 20,Zv 9 21])
 .ret))) }
def mf_frac_New:MFunc :=
 { n:=60,np:=2,res:=[.cell 4 4 true,.t 5],body :=
 (.seq (.ops [
 Zk 2 149002 0,Zk 3 149003 1,⟨some 4,none,.alloc 149004 [(ZI 0),.nil,(ZI 0),.nil]⟩,Zi 5 0])
 (.seq (.block 0
 (.seq (.ops [
 Zu 15 2 2,⟨some 16,none,.call aY [(.t 15)]⟩,Zt 17 16,Zv 18 17,⟨some 19,some (18,false),.load 2 true (.t 3)⟩,⟨some 20,some (18,false),.call aY [(.t 19)]⟩,⟨some 21,some (18,false),.un .not (.t 20)⟩,Zp 22 18 21,Zv 14 22])
 (.cond (.t 14)
 (.seq (.ops [
 ⟨some 23,none,.build [(ZI 0),.nil,(ZI 0),.nil] []⟩,Zs 4 4 23,Zi 5 1])
 .ret)
 (.seq (.ops [
 Zf 25 0 3,Zl 26 1 25,Zc 27 .eql 26 0,Zv 24 27])
 (.cond (.t 24)
 (.seq (.ops [
 ⟨some 28,none,.build [(ZI 0),.nil,(ZI 0),.nil] []⟩,Zs 4 4 28,Zi 5 15])
 .ret)
 (.seq (.ops [
 Zf 30 0 3,Zl 31 1 30,Zc 32 .lss 31 0,Zv 29 32])
 (.cond (.t 29)
 (.opsD [
 Zu 33 2 2,⟨some 34,none,.call jr [(.t 33)]⟩,Zu 35 2 3,⟨some 36,none,.call jr [(.t 35)]⟩,Zs 2 2 34,Zs 2 3 36] [[],[],[],[],[],[]])
 .skip)))))))
 (.seq (.ops [
 Zu 38 2 2,Zu 39 2 3,⟨some 40,none,.call kE [(.t 38),(.t 39)]⟩,Zv 37 40,Zx 41 0 37,Zx 42 1 37,⟨some 6,none,.alloc 149006 [(ZI 0),.nil]⟩,Zs 2 6 41,Zv 7 42])
 (.seq (.ops [
 Zu 44 2 2,Zu 45 2 6,⟨some 46,none,.call io [(.t 44),(.t 45)]⟩,Zv 43 46,Zx 47 0 43,Zx 48 1 43,Zx 49 2 43,⟨some 8,none,.alloc 149008 [(ZI 0),.nil]⟩,⟨some 9,none,.alloc 149009 [(ZI 0),.nil]⟩,Zs 2 8 47,Zs 2 9 48,Zv 10 49])
 (.seq (.ops [
 Zu 51 2 3,Zu 52 2 6,⟨some 53,none,.call io [(.t 51),(.t 52)]⟩,Zv 50 53,Zx 54 0 50,Zx 55 1 50,Zx 56 2 50,⟨some 11,none,.alloc 149011 [(ZI 0),.nil]⟩,⟨some 12,none,.alloc 149012 [(ZI 0),.nil]⟩,Zs 2 11 54,Zs 2 12 55,Zv 13 56])
 (.seq (.ops [
 Zu 57 2 8,Zu 58 2 11,⟨some 59,none,.build [(ZI 0),.nil,(ZI 0),.nil] [(0,2,(.t 57)),(2,2,(.t 58))]⟩,Zs 4 4 59,Zi 5 0])
 .ret)))))) }
def mf_frac_Div:MFunc :=
 { n:=49,np:=2,res:=[.cell 4 4 true,.t 5],body :=
 (.seq (.ops [
 Zk 2 169002 0,Zk 3 169003 1,⟨some 4,none,.alloc 169004 [(ZI 0),.nil,(ZI 0),.nil]⟩,Zi 5 0])
 (.seq (.block 0
 (.seq (.ops [
 Zu 11 4 2,⟨some 12,none,.call bb [(.t 11)]⟩,Zt 13 12,Zv 14 13,⟨some 15,some (14,false),.load 4 true (.t 3)⟩,⟨some 16,some (14,false),.call bb [(.t 15)]⟩,⟨some 17,some (14,false),.un .not (.t 16)⟩,Zp 18 14 17,Zv 10 18])
 (.cond (.t 10)
 (.seq (.ops [
 ⟨some 19,none,.build [(ZI 0),.nil,(ZI 0),.nil] []⟩,Zs 4 4 19,Zi 5 1])
 .ret)
 (.seq (.ops [
 Zf 21 0 3,Zf 22 0 21,Zl 23 1 22,Zc 24 .eql 23 0,Zv 20 24])
 (.cond (.t 20)
 (.seq (.ops [
 ⟨some 25,none,.build [(ZI 0),.nil,(ZI 0),.nil] []⟩,Zs 4 4 25,Zi 5 15])
 .ret)
 .skip)))))
 (.seq (.ops [
 Zf 27 0 2,Zu 28 2 27,Zf 29 2 3,Zu 30 2 29,⟨some 31,none,.call dN [(.t 28),(.t 30)]⟩,Zv 26 31,Zx 32 0 26,Zx 33 1 26,⟨some 6,none,.alloc 169006 [(ZI 0),.nil]⟩,Zs 2 6 32,Zv 7 33])
 (.seq (.ops [
 Zf 35 2 2,Zu 36 2 35,Zf 37 0 3,Zu 38 2 37,⟨some 39,none,.call dN [(.t 36),(.t 38)]⟩,Zv 34 39,Zx 40 0 34,Zx 41 1 34,⟨some 8,none,.alloc 169008 [(ZI 0),.nil]⟩,Zs 2 8 40,Zv 9 41])
 (.seq (.ops [
 Zu 42 2 6,Zv 43 7,Zu 44 2 8,Zv 45 9,⟨some 46,none,.call dB [(.t 42),(.t 43),(.t 44),(.t 45)]⟩,Zx 47 0 46,Zx 48 1 46,Zs 4 4 47,Zv 5 48])
 .ret))))) }
abbrev aU:=Raw × Raw
def ad (f:aU):List Data:=[.int .i64 f.1.1,.sl (f.1.2.map aa),.int .i64 f.2.1,.sl (f.2.2.map aa)]
def bE (x:aU × Int):Data:=.tup [.agg (ad x.1),.int .i64 x.2]
def ak (x:Rat):aU:=(aP x.num,aP x.den)
def cy (x:Rat):Prop:=x.num.natAbs<LIM∧x.den<LIM
def bz:aU:=((0,[]),(0,[]))
def bf (f:aU):Bool:=aI f.1&&(aI f.2&&(f.2.1==1&&(YF (gM f.1).natAbs (gM f.2).natAbs==1)))
def AK (f:aU):Rat:=YG (gM f.1) (gM f.2)
theorem kG (x:Rat):AK (ak x)=x:=by
 unfold AK ak;rw[aQ,aQ,YH]
theorem uR {x y:Rat} (h:ak x=ak y):x=y:=by rw[←kG x,h,kG]
theorem den_pos (x:Rat):0<(x.den:Int):=Int.natCast_pos.2 x.den_pos
theorem IC {n:Int} (h:0<n):(aP n).1=1:=Yh h
theorem kN (f:aU):bf f=true↔∃ x,cy x∧f=ak x:=by
 unfold bf;simp only[YI,beq_iff_eq]
 constructor
 ·rintro⟨h1,h2,h3,h4⟩
  obtain⟨p,hp,e1⟩:=(bj _).1 h1;obtain⟨q,hq,e2⟩:=(bj _).1 h2;obtain⟨f1,f2⟩:=f;simp only at e1 e2 h3 h4;subst e1 e2;rw[aQ,aQ] at h4
  have hqp:0<q:=by
   rcases cz q with ⟨_,h⟩ | ⟨e,_⟩ | ⟨e,_⟩
   ·exact h
   ·have:q.sign=1:=h3;omega
   ·have:q.sign=1:=h3;omega
  refine⟨⟨p,q.natAbs,by omega,h4⟩,⟨hp,hq⟩,?_⟩
  unfold ak;rw[show ((q.natAbs:Nat):Int)=q by omega]
 ·rintro⟨x,⟨h1,h2⟩,rfl⟩
  have hd:(x.den:Int).natAbs<LIM:=by rw[X9];exact h2
  refine⟨bJ h1,bJ hd,IC (den_pos x),?_⟩;unfold ak;rw[aQ,aQ,X9];exact x.reduced
theorem eL {x:Rat} (h:cy x):bf (ak x)=true:=(kN _).2 ⟨x,h,rfl⟩
theorem tV {x:Rat} (h:cy x):(x.den:Int).natAbs<LIM:=by rw[X9];exact h.2
theorem eP {z:Int} (h:z.natAbs<LIM):(dg z.natAbs).length≤1000000:=by have:=fD h;omega
def C1 (a:Raw):Bool:=(qW a).2&&((qW a).1==1)
theorem Kv {z:Int} (h:z.natAbs<LIM):C1 (aP z)=decide (z=1):=by
 unfold C1 qW;rw[bJ h,aQ]
 by_cases hi:ca z
 ·rw[if_pos ⟨rfl,hi⟩]
  simp only[YJ]
  rfl
 ·rw[if_neg fun h=>hi h.2]
  have:z≠1:=by rintro rfl;exact hi (by unfold ca;omega)
  simp [this]
noncomputable def De:List Data→Option PRes:=FF (α:=Int × (List Int)) (fun (s,l)=>([.agg [.int .i64 s,.sl (l.map aa)]]:List Data)) (fun (s,l)=>aG (l.length≤1000000) (.same (.bool (C1 (s,l)))))
theorem Dn:∀ a b:Int × (List Int),(fun (s,l)=>([.agg [.int .i64 s,.sl (l.map aa)]]:List Data)) a=(fun (s,l)=>([.agg [.int .i64 s,.sl (l.map aa)]]:List Data)) b→a=b:=by
  rintro⟨s1,l1⟩ ⟨s2,l2⟩ h;simp only[List.cons.injEq,Data.agg.injEq,Data.int.injEq,Data.sl.injEq] at h;exact Ya h.1.1.2 (af ai _ _ h.1.2.1)
@[go_sem] theorem Qb (s:Int) (l:List Int) (hc:l.length≤1000000):De [.agg [.int .i64 s,.sl (l.map aa)]]=some (.same (.bool (C1 (s,l)))):=(aV Dn (s,l)).trans (an hc _)
theorem Oy (T:Tab) (pW:T pj=mkE u9) (s:Int) (l:List Int) (hc:l.length≤1000000) :
  wp T mf_frac_one.body (bG mf_frac_one.res (.same (.bool (C1 (s,l))))) ⟨ax [.dat (.agg [.int .i64 s,.sl (l.map aa)])],emp⟩:=by
 refine ap ?_;simp only[mf_frac_one];unfold C1;rcases h:(qW (s,l)).2
 ·simp only[go_sem,go_sem_proc,Yb,pW,hc,h]
  repeat' (first|refine qS ?_ ?_|fail)<;>intro h<;>simp only[h,go_sem,go_sem_proc,Yb,pW,hc,h]
 ·simp only[go_sem,go_sem_proc,Yb,pW,hc,h]
  repeat' (first|refine qS ?_ ?_|fail)<;>intro h<;>simp only[h,go_sem,go_sem_proc,Yb,pW,hc,h]
noncomputable def ii:List Data→Option PRes:=FF (α:=Int × (List Int) × Int × (List Int)) (fun (s,l,s2,l2)=>([.agg [.int .i64 s,.sl (l.map aa),.int .i64 s2,.sl (l2.map aa)]]:List Data)) (fun (s,l,s2,l2)=>aG (l.length≤1000000∧l2.length≤1000000) (.same (.bool (bf ((s,l),(s2,l2))))))
theorem xD:∀ a b:Int × (List Int) × Int × (List Int),(fun (s,l,s2,l2)=>([.agg [.int .i64 s,.sl (l.map aa),.int .i64 s2,.sl (l2.map aa)]]:List Data)) a=(fun (s,l,s2,l2)=>([.agg [.int .i64 s,.sl (l.map aa),.int .i64 s2,.sl (l2.map aa)]]:List Data)) b→a=b:=by
  rintro⟨s1,l1,s21,l21⟩ ⟨s2,l2,s22,l22⟩ h;simp only[List.cons.injEq,Data.agg.injEq,Data.int.injEq,Data.sl.injEq] at h;exact Ya h.1.1.2 (Ya (af ai _ _ h.1.2.1) (Ya h.1.2.2.1.2 (af ai _ _ h.1.2.2.2.1)))
@[go_sem] theorem Nr (s:Int) (l:List Int) (s2:Int) (l2:List Int) (hc:l.length≤1000000∧l2.length≤1000000):ii [.agg [.int .i64 s,.sl (l.map aa),.int .i64 s2,.sl (l2.map aa)]]=some (.same (.bool (bf ((s,l),(s2,l2))))):=(aV xD (s,l,s2,l2)).trans (an hc _)
theorem I3 (T:Tab) (al:T aY=mkE d8) (o0:T kE=mkE Ex) (yz:T nB=mkE De) (s:Int) (l:List Int) (s2:Int) (l2:List Int) (hc:l.length≤1000000∧l2.length≤1000000) :
  wp T mf_frac_Right.body (bG mf_frac_Right.res (.same (.bool (bf ((s,l),(s2,l2)))))) ⟨ax [.dat (.agg [.int .i64 s,.sl (l.map aa),.int .i64 s2,.sl (l2.map aa)])],emp⟩:=by
 refine ap ?_;simp only[mf_frac_Right];obtain⟨hl1,hl2⟩:=hc
 by_cases hr:aI (s,l)=true
 ·by_cases hr2:aI (s2,l2)=true
  ·by_cases hs:s2=1
   ·obtain⟨x,hx,e⟩:=(bj _).1 hr
    obtain⟨y,hy,e2⟩:=(bj _).1 hr2
    have hg:kp (s,l) (s2,l2)=(aP ((YF x.natAbs y.natAbs:Nat):Int),0):=by
     unfold kp;rw[hr,hr2,e,e2,aQ,aQ];rfl
    have hgl:=qg hx hy
    have ho:C1 (aP ((YF x.natAbs y.natAbs:Nat):Int))=(YF x.natAbs y.natAbs==1):=by
     rw[Kv (by rw[X9];exact hgl)];rw[Bool.eq_iff_iff];simp;omega
    have hv1:gM (s,l)=x:=by rw[e,aQ]
    have hv2:gM (s2,l2)=y:=by rw[e2,aQ]
    have hR:bf ((s,l),(s2,l2))=(YF x.natAbs y.natAbs==1):=by
     show (aI (s,l)&&(aI (s2,l2)&&((s2==1)&&(YF (gM (s,l)).natAbs (gM (s2,l2)).natAbs==1))))=_;rw[hr,hr2,hv1,hv2,show (s2==1)=true by simpa using hs]
     simp only[YJ]
    have hgl2:((aP ((YF x.natAbs y.natAbs:Nat):Int)).2).length≤1000000:=eP (by rw[X9];exact hgl);rw[hR,←ho];generalize aP ((YF x.natAbs y.natAbs:Nat):Int)=G at *;obtain⟨g1,g2⟩:=G;have hs':(s2==1)=true:=by simpa using hs
    refine qI ?_
    repeat' (intro h<;>simp only[h,go_sem,go_sem_proc,Yb,al,o0,yz,hr,hr2,hl1,hl2,hs',hg,hgl2,dR,bF,show ((0:Int)==0)=true from rfl]<;>try refine qS ?_ ?_)
   ·have hR:bf ((s,l),(s2,l2))=false:=by unfold bf;simp [hs]
    have hs':(s2==1)=false:=by simpa using hs
    rw[hR];refine qI ?_
    repeat' (intro h<;>simp only[h,go_sem,go_sem_proc,Yb,al,o0,yz,hr,hr2,hl1,hl2,hs']<;>try refine qS ?_ ?_)
  ·have hr2:aI (s2,l2)=false:=by simpa using hr2
   have hR:bf ((s,l),(s2,l2))=false:=by unfold bf;simp [hr2]
   rw[hR];refine qI ?_
   repeat' (intro h<;>simp only[h,go_sem,go_sem_proc,Yb,al,o0,yz,hr,hr2,hl1,hl2]<;>try refine qS ?_ ?_)
 ·have hr:aI (s,l)=false:=by simpa using hr
  have hR:bf ((s,l),(s2,l2))=false:=by unfold bf;simp [hr]
  rw[hR];refine qI ?_
  repeat' (intro h<;>simp only[h,go_sem,go_sem_proc,Yb,al,o0,yz,hr,hl1,hl2]<;>try refine qS ?_ ?_)
def fH (p q:Raw):aU × Int :=
 if (aI p&&aI q)=true then (if gM q=0 then (bz,15) else (ak (YG (gM p) (gM q)),0)) else (bz,1)
theorem i7 {p q:Int} (hp:p.natAbs<LIM) (hq:q.natAbs<LIM) (h0:q≠0):fH (aP p) (aP q)=(ak (YG p q),0):=by
 unfold fH;rw[bJ hp,bJ hq,aQ,aQ,if_pos (by rfl),if_neg h0]
theorem mR {p q:Int} (hq:0<q):(YG p q).num=p.fdiv ((YF p.natAbs q.natAbs:Nat):Int)∧((YG p q).den:Int)=q.fdiv ((YF p.natAbs q.natAbs:Nat):Int):=by
 rw[Rat.num_divInt,Rat.den_divInt,if_neg (by omega),Yh hq,X1];have hg:q.gcd p=YF p.natAbs q.natAbs:=by rw[Int.gcd_comm];rfl
 rw[hg];have h0:(0:Int)≤((YF p.natAbs q.natAbs:Nat):Int):=Int.natCast_nonneg _;rw[YK _ h0,YK _ h0];refine⟨rfl,?_⟩;rw[Int.natCast_ediv]
 congr 1
 omega
theorem uc {p q:Int} (hq:q≠0):0<YF p.natAbs q.natAbs:=Nat.gcd_pos_of_pos_right _ (by omega)
theorem mO {p q:Int} (hp:p.natAbs<LIM) (hq:q.natAbs<LIM):cy (YG p q):=by
 have main:∀ {p q:Int},p.natAbs<LIM→q.natAbs<LIM→0<q→cy (YG p q):=by
  intro p q hp hq h0;obtain⟨h1,h2⟩:=mR (p:=p) h0;have hg:=uc (p:=p) (q:=q) (by omega);refine⟨?_,?_⟩
  ·rw[h1];exact mh hp (by omega)
  ·have:=mh (y:=((YF p.natAbs q.natAbs:Nat):Int)) hq (by omega)
   rw[←h2,X9] at this;exact this
 rcases YL q 0 with h | h | h
 ·rw[←YM]
  exact main (by omega) (by omega) (by omega)
 ·subst h
  rw[Rat.divInt_zero];unfold cy LIM;exact⟨Nat.pow_pos (by omega),Nat.one_lt_pow (by omega) (by omega)⟩
 ·exact main hp hq h
noncomputable def xR:List Data→Option PRes:=FF (α:=Int × (List Int) × Int × (List Int)) (fun (s,l,s2,l2)=>([.agg [.int .i64 s,.sl (l.map aa)],.agg [.int .i64 s2,.sl (l2.map aa)]]:List Data)) (fun (s,l,s2,l2)=>aG (l.length≤1000000∧l2.length≤1000000) (.same (bE (fH (s,l) (s2,l2)))))
theorem CI:∀ a b:Int × (List Int) × Int × (List Int),(fun (s,l,s2,l2)=>([.agg [.int .i64 s,.sl (l.map aa)],.agg [.int .i64 s2,.sl (l2.map aa)]]:List Data)) a=(fun (s,l,s2,l2)=>([.agg [.int .i64 s,.sl (l.map aa)],.agg [.int .i64 s2,.sl (l2.map aa)]]:List Data)) b→a=b:=by
  rintro⟨s1,l1,s21,l21⟩ ⟨s2,l2,s22,l22⟩ h;simp only[List.cons.injEq,Data.agg.injEq,Data.int.injEq,Data.sl.injEq] at h;exact Ya h.1.1.2 (Ya (af ai _ _ h.1.2.1) (Ya h.2.1.1.2 (af ai _ _ h.2.1.2.1)))
@[go_sem] theorem Pw (s:Int) (l:List Int) (s2:Int) (l2:List Int) (hc:l.length≤1000000∧l2.length≤1000000):xR [.agg [.int .i64 s,.sl (l.map aa)],.agg [.int .i64 s2,.sl (l2.map aa)]]=some (.same (bE (fH (s,l) (s2,l2)))):=(aV CI (s,l,s2,l2)).trans (an hc _)
theorem OC (T:Tab) (al:T aY=mkE d8) (pK:T jr=mkE DW) (o0:T kE=mkE Ex) (kd:T io=mkE El) (s:Int) (l:List Int) (s2:Int) (l2:List Int) (hc:l.length≤1000000∧l2.length≤1000000) :
  wp T mf_frac_New.body (bG mf_frac_New.res (.same (bE (fH (s,l) (s2,l2))))) ⟨ax [.dat (.agg [.int .i64 s,.sl (l.map aa)]),.dat (.agg [.int .i64 s2,.sl (l2.map aa)])],emp⟩:=by
 refine ap ?_;simp only[mf_frac_New];obtain⟨hl1,hl2⟩:=hc
 by_cases hr:aI (s,l)=true
 ·by_cases hr2:aI (s2,l2)=true
  ·obtain⟨x,hx,e⟩:=(bj _).1 hr
   obtain⟨y,hy,e2⟩:=(bj _).1 hr2
   by_cases h0:y=0
   ·have hm:fH (s,l) (s2,l2)=(bz,15):=by
     unfold fH;rw[hr,hr2,e2,aQ,if_pos (by rfl),if_pos h0]
    rw[hm]
    cases e
    cases e2;have hs:(y.sign==0)=true:=by rw[h0];rfl
    refine qI ?_
    repeat' (intro h<;>simp only[h,go_sem,go_sem_proc,Yb,al,pK,o0,kd,hr,hr2,hl1,hl2,hs,bE,ad,bz,Yc]<;>try refine qS ?_ ?_)
   ·have main:∀ p q:Int,p.natAbs<LIM→q.natAbs<LIM→0<q→∃ g:Raw,kp (aP p) (aP q)=(g,0)∧g.2.length≤1000000∧jj (aP p) g=(aP (YG p q).num,aP (p.fmod ((YF p.natAbs q.natAbs:Nat):Int)),0)∧jj (aP q) g=(aP (YG p q).den,aP (q.fmod ((YF p.natAbs q.natAbs:Nat):Int)),0):=by
     intro p q hp hq hq0;have hgl:=qg hp hq;have hgl':((YF p.natAbs q.natAbs:Nat):Int).natAbs<LIM:=by rw[X9];exact hgl
     have hg0:=uc (p:=p) (q:=q) (by omega);obtain⟨h1,h2⟩:=mR (p:=p) hq0;refine⟨aP ((YF p.natAbs q.natAbs:Nat):Int),?_,eP hgl',?_,?_⟩
     ·unfold kp;rw[bJ hp,bJ hq,aQ,aQ];rfl
     ·rw[lf hp hgl' (by omega),h1]
     ·rw[lf hq hgl' (by omega),h2]
    have hs0:(y.sign==0)=false:=by simpa using h0
    rcases Int.lt_or_gt_of_ne h0 with hneg | hpos
    ·have hs1:decide (y.sign<0)=true:=by rw[Yq hneg];rfl
     obtain⟨⟨g1,g2⟩,hg,hgl,hd1,hd2⟩:=main (-x) (-y) (by omega) (by omega) (by omega)
     have hm:fH (s,l) (s2,l2)=(ak (YG (-x) (-y)),0):=by
      rw[e,e2,i7 hx hy h0,YM]
     rw[hm];have hn1:iO (s,l)=aP (-x):=by unfold iO;rw[if_pos hr,e,aQ]
     have hn2:iO (s2,l2)=aP (-y):=by unfold iO;rw[if_pos hr2,e2,aQ]
     have hy1:s2=y.sign:=congrArg YN e2;have hl3:(aP (-x)).2.length≤1000000:=eP (by omega);have hl4:(aP (-y)).2.length≤1000000:=eP (by omega);clear e e2;unfold ak;generalize aP (-x)=X at *;generalize aP (-y)=Y at *;obtain⟨x1,x2⟩:=X;obtain⟨y1,y2⟩:=Y;rw[←hy1] at hs0 hs1;refine qI ?_
     repeat' (intro h<;>simp only[h,go_sem,go_sem_proc,Yb,al,pK,o0,kd,hr,hr2,hl1,hl2,hs0,hs1,hn1,hn2,hl3,hl4,hg,hgl,hd1,hd2,bE,ad,dR,dj,bF]<;>try refine qS ?_ ?_)
    ·have hs1:decide (y.sign<0)=false:=by rw[Yh hpos];rfl
     obtain⟨⟨g1,g2⟩,hg,hgl,hd1,hd2⟩:=main x y hx hy hpos
     have hm:fH (s,l) (s2,l2)=(ak (YG x y),0):=by
      rw[e,e2,i7 hx hy h0]
     rw[hm];have hy1:s2=y.sign:=congrArg YN e2;rw[←e] at hg hd1;rw[←e2] at hg hd2;rw[←hy1] at hs0 hs1;unfold ak;refine qI ?_
     repeat' (intro h<;>simp only[h,go_sem,go_sem_proc,Yb,al,pK,o0,kd,hr,hr2,hl1,hl2,hs0,hs1,hg,hgl,hd1,hd2,bE,ad,dR,dj,bF]<;>try refine qS ?_ ?_)
  ·have hr2:aI (s2,l2)=false:=by simpa using hr2
   have hm:fH (s,l) (s2,l2)=(bz,1):=by unfold fH;rw[hr2,Yl];rfl
   rw[hm];refine qI ?_
   repeat' (intro h<;>simp only[h,go_sem,go_sem_proc,Yb,al,pK,o0,kd,hr,hr2,hl1,hl2,bE,ad,bz,Yc]<;>try refine qS ?_ ?_)
 ·have hr:aI (s,l)=false:=by simpa using hr
  have hm:fH (s,l) (s2,l2)=(bz,1):=by unfold fH;rw[hr,Ym];rfl
  rw[hm];refine qI ?_
  repeat' (intro h<;>simp only[h,go_sem,go_sem_proc,Yb,al,pK,o0,kd,hr,hl1,hl2,bE,ad,bz,Yc]<;>try refine qS ?_ ?_)
noncomputable def ud:List Data→Option PRes:=FF (α:=Int × Int) (fun (p,q)=>([.int .i64 p,.int .i64 q]:List Data)) (fun (p,q)=>aG (ca p∧ca q) (.same (bE (fH (aP p) (aP q)))))
theorem E0:∀ a b:Int × Int,(fun (p,q)=>([.int .i64 p,.int .i64 q]:List Data)) a=(fun (p,q)=>([.int .i64 p,.int .i64 q]:List Data)) b→a=b:=by
  rintro⟨p1,q1⟩ ⟨p2,q2⟩ h;simp only[List.cons.injEq,Data.int.injEq,Data.agg.injEq,Data.sl.injEq,Data.bool.injEq,Data.str.injEq,Data.ptr.injEq,Data.tup.injEq,Prod.mk.injEq,true_and,and_true] at h ⊢
  first | exact h | simpa [Yn,and_assoc] using h | grind
@[go_sem] theorem Ai (p:Int) (q:Int) (hc:ca p∧ca q):ud [.int .i64 p,.int .i64 q]=some (.same (bE (fH (aP p) (aP q)))):=(aV E0 (p,q)).trans (an hc _)
theorem Rq (T:Tab) (Me:T oD=mkE yJ) (te:T jU=mkE xR) (p:Int) (q:Int) (hc:ca p∧ca q) :
  wp T mf_frac_Of.body (bG mf_frac_Of.res (.same (bE (fH (aP p) (aP q))))) ⟨ax [.dat (.int .i64 p),.dat (.int .i64 q)],emp⟩:=by
 refine ap ?_;simp only[mf_frac_Of];obtain⟨h1,h2⟩:=hc;have l1:(aP p).2.length≤1000000:=eP (jz h1);have l2:(aP q).2.length≤1000000:=eP (jz h2);generalize hP:aP p=P at *;generalize hQ:aP q=Q at *;obtain⟨x1,x2⟩:=P;obtain⟨y1,y2⟩:=Q;refine qI ?_
 repeat' (intro h<;>simp only[h,go_sem,go_sem_proc,Yb,Me,te,h1,h2,hP,hQ,l1,l2,bF,bE,ad]<;>try refine qS ?_ ?_)
def ua (a b c d:Raw):Raw × Int :=
 if ((gC a b).2==0)=true then (if ((gC c d).2==0)=true then qQ (gC a b).1 (gC c d).1 else ((0,[]),(gC c d).2)) else ((0,[]),(gC a b).2)
theorem xd (z:Int):(lj z).1.2.length≤1000000:=by
 unfold lj
 split
 ·exact eP (by assumption)
 ·simp
theorem kD (a b:Raw):(gC a b).1.2.length≤1000000:=by
 unfold gC
 split
 ·exact xd _
 ·simp
theorem I4 (a b:Raw):(qQ a b).1.2.length≤1000000:=by
 unfold qQ
 split
 ·exact xd _
 ·simp
theorem Ii (a b c d:Raw):(ua a b c d).1.2.length≤1000000:=by
 unfold ua
 split
 ·split
  ·exact I4 _ _
  ·simp
 ·simp
noncomputable def BQ:List Data→Option PRes:=FF (α:=Int × (List Int) × Int × (List Int) × Int × (List Int) × Int × (List Int)) (fun (s,l,s2,l2,s3,l3,s4,l4)=>([.agg [.int .i64 s,.sl (l.map aa)],.agg [.int .i64 s2,.sl (l2.map aa)],.agg [.int .i64 s3,.sl (l3.map aa)],.agg [.int .i64 s4,.sl (l4.map aa)]]:List Data)) (fun (s,l,s2,l2,s3,l3,s4,l4)=>aG (l.length≤1000000∧l2.length≤1000000∧l3.length≤1000000∧l4.length≤1000000) (.same (dR (ua (s,l) (s2,l2) (s3,l3) (s4,l4)))))
theorem Cu:∀ a b:Int × (List Int) × Int × (List Int) × Int × (List Int) × Int × (List Int),(fun (s,l,s2,l2,s3,l3,s4,l4)=>([.agg [.int .i64 s,.sl (l.map aa)],.agg [.int .i64 s2,.sl (l2.map aa)],.agg [.int .i64 s3,.sl (l3.map aa)],.agg [.int .i64 s4,.sl (l4.map aa)]]:List Data)) a=(fun (s,l,s2,l2,s3,l3,s4,l4)=>([.agg [.int .i64 s,.sl (l.map aa)],.agg [.int .i64 s2,.sl (l2.map aa)],.agg [.int .i64 s3,.sl (l3.map aa)],.agg [.int .i64 s4,.sl (l4.map aa)]]:List Data)) b→a=b:=by
  rintro⟨s1,l1,s21,l21,s31,l31,s41,l41⟩ ⟨s2,l2,s22,l22,s32,l32,s42,l42⟩ h;simp only[List.cons.injEq,Data.agg.injEq,Data.int.injEq,Data.sl.injEq] at h;exact Ya h.1.1.2 (Ya (af ai _ _ h.1.2.1) (Ya h.2.1.1.2 (Ya (af ai _ _ h.2.1.2.1) (Ya h.2.2.1.1.2 (Ya (af ai _ _ h.2.2.1.2.1) (Ya h.2.2.2.1.1.2 (af ai _ _ h.2.2.2.1.2.1)))))))
@[go_sem] theorem Ql (s:Int) (l:List Int) (s2:Int) (l2:List Int) (s3:Int) (l3:List Int) (s4:Int) (l4:List Int) (hc:l.length≤1000000∧l2.length≤1000000∧l3.length≤1000000∧l4.length≤1000000):BQ [.agg [.int .i64 s,.sl (l.map aa)],.agg [.int .i64 s2,.sl (l2.map aa)],.agg [.int .i64 s3,.sl (l3.map aa)],.agg [.int .i64 s4,.sl (l4.map aa)]]=some (.same (dR (ua (s,l) (s2,l2) (s3,l3) (s4,l4)))):=(aV Cu (s,l,s2,l2,s3,l3,s4,l4)).trans (an hc _)
theorem Pg (T:Tab) (kg:T dN=mkE wv) (IN:T px=mkE IR) (s:Int) (l:List Int) (s2:Int) (l2:List Int) (s3:Int) (l3:List Int) (s4:Int) (l4:List Int) (hc:l.length≤1000000∧l2.length≤1000000∧l3.length≤1000000∧l4.length≤1000000) :
  wp T mf_frac_sum.body (bG mf_frac_sum.res (.same (dR (ua (s,l) (s2,l2) (s3,l3) (s4,l4))))) ⟨ax [.dat (.agg [.int .i64 s,.sl (l.map aa)]),.dat (.agg [.int .i64 s2,.sl (l2.map aa)]),.dat (.agg [.int .i64 s3,.sl (l3.map aa)]),.dat (.agg [.int .i64 s4,.sl (l4.map aa)])],emp⟩:=by
 refine ap ?_;simp only[mf_frac_sum];obtain⟨hl1,hl2,hl3,hl4⟩:=hc;have m1:=kD (s,l) (s2,l2);have m2:=kD (s3,l3) (s4,l4);unfold ua;generalize hM1:gC (s,l) (s2,l2)=M1 at *;generalize hM2:gC (s3,l3) (s4,l4)=M2 at *;obtain⟨⟨a1,a2⟩,e1⟩:=M1;obtain⟨⟨b1,b2⟩,e2⟩:=M2;rcases h1:(e1==0)
 ·refine qI ?_
  repeat' (intro h<;>simp only[h,go_sem,go_sem_proc,Yb,kg,IN,hl1,hl2,hl3,hl4,hM1,h1,m1,m2,dR,bF,Yc]<;>try refine qS ?_ ?_)
 ·have z1:e1=0:=by simpa using h1
  subst z1;rcases h2:(e2==0)
  ·refine qI ?_
   repeat' (intro h<;>simp only[h,go_sem,go_sem_proc,Yb,kg,IN,hl1,hl2,hl3,hl4,hM1,hM2,h1,h2,m1,m2,dR,bF,Yc]<;>try refine qS ?_ ?_)
  ·have z2:e2=0:=by simpa using h2
   subst z2;refine qI ?_
   repeat' (intro h<;>simp only[h,go_sem,go_sem_proc,Yb,kg,IN,hl1,hl2,hl3,hl4,hM1,hM2,h1,m1,m2,dR,bF,Yc]<;>try refine qS ?_ ?_)
def nu (p:Raw × Int) (q:Raw × Int):aU × Int:=if (p.2==0)=true then (if (q.2==0)=true then fH p.1 q.1 else (bz,6)) else (bz,6)
noncomputable def pP:List Data→Option PRes:=FF (α:=Int × (List Int) × Int × Int × (List Int) × Int) (fun (s,l,e,s2,l2,e2)=>([.agg [.int .i64 s,.sl (l.map aa)],.int .i64 e,.agg [.int .i64 s2,.sl (l2.map aa)],.int .i64 e2]:List Data)) (fun (s,l,e,s2,l2,e2)=>aG (l.length≤1000000∧l2.length≤1000000) (.same (bE (nu ((s,l),e) ((s2,l2),e2)))))
theorem Bp:∀ a b:Int × (List Int) × Int × Int × (List Int) × Int,(fun (s,l,e,s2,l2,e2)=>([.agg [.int .i64 s,.sl (l.map aa)],.int .i64 e,.agg [.int .i64 s2,.sl (l2.map aa)],.int .i64 e2]:List Data)) a=(fun (s,l,e,s2,l2,e2)=>([.agg [.int .i64 s,.sl (l.map aa)],.int .i64 e,.agg [.int .i64 s2,.sl (l2.map aa)],.int .i64 e2]:List Data)) b→a=b:=by
  rintro⟨s1,l1,e1,s21,l21,e21⟩ ⟨s2,l2,e2,s22,l22,e22⟩ h;simp only[List.cons.injEq,Data.agg.injEq,Data.int.injEq,Data.sl.injEq] at h;exact Ya h.1.1.2 (Ya (af ai _ _ h.1.2.1) (Ya h.2.1.2 (Ya h.2.2.1.1.2 (Ya (af ai _ _ h.2.2.1.2.1) h.2.2.2.1.2))))
@[go_sem] theorem Pa (s:Int) (l:List Int) (e:Int) (s2:Int) (l2:List Int) (e2:Int) (hc:l.length≤1000000∧l2.length≤1000000):pP [.agg [.int .i64 s,.sl (l.map aa)],.int .i64 e,.agg [.int .i64 s2,.sl (l2.map aa)],.int .i64 e2]=some (.same (bE (nu ((s,l),e) ((s2,l2),e2)))):=(aV Bp (s,l,e,s2,l2,e2)).trans (an hc _)
theorem L3 (T:Tab) (te:T jU=mkE xR) (s:Int) (l:List Int) (e:Int) (s2:Int) (l2:List Int) (e2:Int) (hc:l.length≤1000000∧l2.length≤1000000) :
  wp T mf_frac_quotient.body (bG mf_frac_quotient.res (.same (bE (nu ((s,l),e) ((s2,l2),e2))))) ⟨ax [.dat (.agg [.int .i64 s,.sl (l.map aa)]),.dat (.int .i64 e),.dat (.agg [.int .i64 s2,.sl (l2.map aa)]),.dat (.int .i64 e2)],emp⟩:=by
 refine ap ?_;simp only[mf_frac_quotient];obtain⟨hl1,hl2⟩:=hc;unfold nu;rcases h1:(e==0)
 ·refine qI ?_
  repeat' (intro h<;>simp only[h,go_sem,go_sem_proc,Yb,te,hl1,hl2,h1,bE,ad,bz,Yc]<;>try refine qS ?_ ?_)
 ·have z1:e=0:=by simpa using h1
  subst z1;rcases h2:(e2==0)
  ·refine qI ?_
   repeat' (intro h<;>simp only[h,go_sem,go_sem_proc,Yb,te,hl1,hl2,h1,h2,bE,ad,bz,Yc]<;>try refine qS ?_ ?_)
  ·have z2:e2=0:=by simpa using h2
   subst z2;refine qI ?_
   repeat' (intro h<;>simp only[h,go_sem,go_sem_proc,Yb,te,hl1,hl2,h1,bE,ad,bz,Yc]<;>try refine qS ?_ ?_)
def uA (a b:aU):aU × Int:=if bf a=true then (if bf b=true then nu (ua a.1 b.2 b.1 a.2) (gC a.2 b.2) else (bz,1)) else (bz,1)
def nv (a b:aU):aU × Int:=if bf a=true then (if bf b=true then uA a (iO b.1,b.2) else (bz,1)) else (bz,1)
def lX (a b:aU):aU × Int:=if bf a=true then (if bf b=true then nu (gC a.1 b.1) (gC a.2 b.2) else (bz,1)) else (bz,1)
def iY (a b:aU):aU × Int:=if bf a=true then (if bf b=true then (if (b.1.1==0)=true then (bz,15) else nu (gC a.1 b.2) (gC a.2 b.1)) else (bz,1)) else (bz,1)
theorem Hs (a:Raw) (h:a.2.length≤1000000):(iO a).2.length≤1000000:=by
 unfold iO
 split
 ·rename_i hr
  obtain⟨z,hz,e⟩:=(bj _).1 hr;rw[e,aQ];exact eP (by omega)
 ·simp
noncomputable def pn:List Data→Option PRes:=FF (α:=Int × (List Int) × Int × (List Int) × Int × (List Int) × Int × (List Int)) (fun (s,l,s2,l2,s3,l3,s4,l4)=>([.agg [.int .i64 s,.sl (l.map aa),.int .i64 s2,.sl (l2.map aa)],.agg [.int .i64 s3,.sl (l3.map aa),.int .i64 s4,.sl (l4.map aa)]]:List Data)) (fun (s,l,s2,l2,s3,l3,s4,l4)=>aG (l.length≤1000000∧l2.length≤1000000∧l3.length≤1000000∧l4.length≤1000000) (.same (bE (uA ((s,l),(s2,l2)) ((s3,l3),(s4,l4))))))
theorem Cs:∀ a b:Int × (List Int) × Int × (List Int) × Int × (List Int) × Int × (List Int),(fun (s,l,s2,l2,s3,l3,s4,l4)=>([.agg [.int .i64 s,.sl (l.map aa),.int .i64 s2,.sl (l2.map aa)],.agg [.int .i64 s3,.sl (l3.map aa),.int .i64 s4,.sl (l4.map aa)]]:List Data)) a=(fun (s,l,s2,l2,s3,l3,s4,l4)=>([.agg [.int .i64 s,.sl (l.map aa),.int .i64 s2,.sl (l2.map aa)],.agg [.int .i64 s3,.sl (l3.map aa),.int .i64 s4,.sl (l4.map aa)]]:List Data)) b→a=b:=by
  rintro⟨s1,l1,s21,l21,s31,l31,s41,l41⟩ ⟨s2,l2,s22,l22,s32,l32,s42,l42⟩ h;simp only[List.cons.injEq,Data.agg.injEq,Data.int.injEq,Data.sl.injEq] at h;exact Ya h.1.1.2 (Ya (af ai _ _ h.1.2.1) (Ya h.1.2.2.1.2 (Ya (af ai _ _ h.1.2.2.2.1) (Ya h.2.1.1.2 (Ya (af ai _ _ h.2.1.2.1) (Ya h.2.1.2.2.1.2 (af ai _ _ h.2.1.2.2.2.1)))))))
@[go_sem] theorem E8 (s:Int) (l:List Int) (s2:Int) (l2:List Int) (s3:Int) (l3:List Int) (s4:Int) (l4:List Int) (hc:l.length≤1000000∧l2.length≤1000000∧l3.length≤1000000∧l4.length≤1000000):pn [.agg [.int .i64 s,.sl (l.map aa),.int .i64 s2,.sl (l2.map aa)],.agg [.int .i64 s3,.sl (l3.map aa),.int .i64 s4,.sl (l4.map aa)]]=some (.same (bE (uA ((s,l),(s2,l2)) ((s3,l3),(s4,l4))))):=(aV Cs (s,l,s2,l2,s3,l3,s4,l4)).trans (an hc _)
theorem OE (T:Tab) (aZ:T bb=mkE ii) (DE:T nD=mkE BQ) (kg:T dN=mkE wv) (il:T dB=mkE pP) (s:Int) (l:List Int) (s2:Int) (l2:List Int) (s3:Int) (l3:List Int) (s4:Int) (l4:List Int) (hc:l.length≤1000000∧l2.length≤1000000∧l3.length≤1000000∧l4.length≤1000000) :
  wp T mf_frac_Add.body (bG mf_frac_Add.res (.same (bE (uA ((s,l),(s2,l2)) ((s3,l3),(s4,l4)))))) ⟨ax [.dat (.agg [.int .i64 s,.sl (l.map aa),.int .i64 s2,.sl (l2.map aa)]),.dat (.agg [.int .i64 s3,.sl (l3.map aa),.int .i64 s4,.sl (l4.map aa)])],emp⟩:=by
 refine ap ?_;simp only[mf_frac_Add];obtain⟨hl1,hl2,hl3,hl4⟩:=hc;unfold uA
 by_cases hr:bf ((s,l),(s2,l2))=true
 ·by_cases hr2:bf ((s3,l3),(s4,l4))=true
  ·have m1:=Ii (s,l) (s4,l4) (s3,l3) (s2,l2)
   have m2:=kD (s2,l2) (s4,l4);rw[if_pos hr,if_pos hr2];dsimp only;generalize hM1:ua (s,l) (s4,l4) (s3,l3) (s2,l2)=M1 at *;generalize hM2:gC (s2,l2) (s4,l4)=M2 at *;obtain⟨⟨a1,a2⟩,e1⟩:=M1;obtain⟨⟨b1,b2⟩,e2⟩:=M2;refine qI ?_
   repeat' (intro h<;>simp only[h,go_sem,go_sem_proc,Yb,aZ,DE,kg,il,hl1,hl2,hl3,hl4,hr,hr2,hM1,hM2,m1,m2,dR,bF,bE,ad]<;>try refine qS ?_ ?_)
  ·have hr2:bf ((s3,l3),(s4,l4))=false:=by simpa using hr2
   rw[if_pos hr,if_neg (by simp [hr2])];refine qI ?_
   repeat' (intro h<;>simp only[h,go_sem,go_sem_proc,Yb,aZ,DE,kg,il,hl1,hl2,hl3,hl4,hr,hr2,bE,ad,bz,Yc]<;>try refine qS ?_ ?_)
 ·have hr:bf ((s,l),(s2,l2))=false:=by simpa using hr
  rw[if_neg (by simp [hr])];refine qI ?_
  repeat' (intro h<;>simp only[h,go_sem,go_sem_proc,Yb,aZ,DE,kg,il,hl1,hl2,hl3,hl4,hr,bE,ad,bz,Yc]<;>try refine qS ?_ ?_)
noncomputable def lT:List Data→Option PRes:=FF (α:=Int × (List Int) × Int × (List Int) × Int × (List Int) × Int × (List Int)) (fun (s,l,s2,l2,s3,l3,s4,l4)=>([.agg [.int .i64 s,.sl (l.map aa),.int .i64 s2,.sl (l2.map aa)],.agg [.int .i64 s3,.sl (l3.map aa),.int .i64 s4,.sl (l4.map aa)]]:List Data)) (fun (s,l,s2,l2,s3,l3,s4,l4)=>aG (l.length≤1000000∧l2.length≤1000000∧l3.length≤1000000∧l4.length≤1000000) (.same (bE (nv ((s,l),(s2,l2)) ((s3,l3),(s4,l4))))))
theorem CW:∀ a b:Int × (List Int) × Int × (List Int) × Int × (List Int) × Int × (List Int),(fun (s,l,s2,l2,s3,l3,s4,l4)=>([.agg [.int .i64 s,.sl (l.map aa),.int .i64 s2,.sl (l2.map aa)],.agg [.int .i64 s3,.sl (l3.map aa),.int .i64 s4,.sl (l4.map aa)]]:List Data)) a=(fun (s,l,s2,l2,s3,l3,s4,l4)=>([.agg [.int .i64 s,.sl (l.map aa),.int .i64 s2,.sl (l2.map aa)],.agg [.int .i64 s3,.sl (l3.map aa),.int .i64 s4,.sl (l4.map aa)]]:List Data)) b→a=b:=by
  rintro⟨s1,l1,s21,l21,s31,l31,s41,l41⟩ ⟨s2,l2,s22,l22,s32,l32,s42,l42⟩ h;simp only[List.cons.injEq,Data.agg.injEq,Data.int.injEq,Data.sl.injEq] at h;exact Ya h.1.1.2 (Ya (af ai _ _ h.1.2.1) (Ya h.1.2.2.1.2 (Ya (af ai _ _ h.1.2.2.2.1) (Ya h.2.1.1.2 (Ya (af ai _ _ h.2.1.2.1) (Ya h.2.1.2.2.1.2 (af ai _ _ h.2.1.2.2.2.1)))))))
@[go_sem] theorem Gq (s:Int) (l:List Int) (s2:Int) (l2:List Int) (s3:Int) (l3:List Int) (s4:Int) (l4:List Int) (hc:l.length≤1000000∧l2.length≤1000000∧l3.length≤1000000∧l4.length≤1000000):lT [.agg [.int .i64 s,.sl (l.map aa),.int .i64 s2,.sl (l2.map aa)],.agg [.int .i64 s3,.sl (l3.map aa),.int .i64 s4,.sl (l4.map aa)]]=some (.same (bE (nv ((s,l),(s2,l2)) ((s3,l3),(s4,l4))))):=(aV CW (s,l,s2,l2,s3,l3,s4,l4)).trans (an hc _)
theorem OM (T:Tab) (aZ:T bb=mkE ii) (pK:T jr=mkE DW) (lB:T fy=mkE pn) (s:Int) (l:List Int) (s2:Int) (l2:List Int) (s3:Int) (l3:List Int) (s4:Int) (l4:List Int) (hc:l.length≤1000000∧l2.length≤1000000∧l3.length≤1000000∧l4.length≤1000000) :
  wp T mf_frac_Sub.body (bG mf_frac_Sub.res (.same (bE (nv ((s,l),(s2,l2)) ((s3,l3),(s4,l4)))))) ⟨ax [.dat (.agg [.int .i64 s,.sl (l.map aa),.int .i64 s2,.sl (l2.map aa)]),.dat (.agg [.int .i64 s3,.sl (l3.map aa),.int .i64 s4,.sl (l4.map aa)])],emp⟩:=by
 refine ap ?_;simp only[mf_frac_Sub];obtain⟨hl1,hl2,hl3,hl4⟩:=hc;unfold nv
 by_cases hr:bf ((s,l),(s2,l2))=true
 ·by_cases hr2:bf ((s3,l3),(s4,l4))=true
  ·have m1:=Hs (s3,l3) hl3
   rw[if_pos hr,if_pos hr2];dsimp only;generalize hM1:iO (s3,l3)=M1 at *;obtain⟨a1,a2⟩:=M1;refine qI ?_
   repeat' (intro h<;>simp only[h,go_sem,go_sem_proc,Yb,aZ,pK,lB,hl1,hl2,hl3,hl4,hr,hr2,hM1,m1,dR,bF,bE,ad]<;>try refine qS ?_ ?_)
  ·have hr2:bf ((s3,l3),(s4,l4))=false:=by simpa using hr2
   rw[if_pos hr,if_neg (by simp [hr2])];refine qI ?_
   repeat' (intro h<;>simp only[h,go_sem,go_sem_proc,Yb,aZ,pK,lB,hl1,hl2,hl3,hl4,hr,hr2,bE,ad,bz,Yc]<;>try refine qS ?_ ?_)
 ·have hr:bf ((s,l),(s2,l2))=false:=by simpa using hr
  rw[if_neg (by simp [hr])];refine qI ?_
  repeat' (intro h<;>simp only[h,go_sem,go_sem_proc,Yb,aZ,pK,lB,hl1,hl2,hl3,hl4,hr,bE,ad,bz,Yc]<;>try refine qS ?_ ?_)
noncomputable def kI:List Data→Option PRes:=FF (α:=Int × (List Int) × Int × (List Int) × Int × (List Int) × Int × (List Int)) (fun (s,l,s2,l2,s3,l3,s4,l4)=>([.agg [.int .i64 s,.sl (l.map aa),.int .i64 s2,.sl (l2.map aa)],.agg [.int .i64 s3,.sl (l3.map aa),.int .i64 s4,.sl (l4.map aa)]]:List Data)) (fun (s,l,s2,l2,s3,l3,s4,l4)=>aG (l.length≤1000000∧l2.length≤1000000∧l3.length≤1000000∧l4.length≤1000000) (.same (bE (lX ((s,l),(s2,l2)) ((s3,l3),(s4,l4))))))
theorem DF:∀ a b:Int × (List Int) × Int × (List Int) × Int × (List Int) × Int × (List Int),(fun (s,l,s2,l2,s3,l3,s4,l4)=>([.agg [.int .i64 s,.sl (l.map aa),.int .i64 s2,.sl (l2.map aa)],.agg [.int .i64 s3,.sl (l3.map aa),.int .i64 s4,.sl (l4.map aa)]]:List Data)) a=(fun (s,l,s2,l2,s3,l3,s4,l4)=>([.agg [.int .i64 s,.sl (l.map aa),.int .i64 s2,.sl (l2.map aa)],.agg [.int .i64 s3,.sl (l3.map aa),.int .i64 s4,.sl (l4.map aa)]]:List Data)) b→a=b:=by
  rintro⟨s1,l1,s21,l21,s31,l31,s41,l41⟩ ⟨s2,l2,s22,l22,s32,l32,s42,l42⟩ h;simp only[List.cons.injEq,Data.agg.injEq,Data.int.injEq,Data.sl.injEq] at h;exact Ya h.1.1.2 (Ya (af ai _ _ h.1.2.1) (Ya h.1.2.2.1.2 (Ya (af ai _ _ h.1.2.2.2.1) (Ya h.2.1.1.2 (Ya (af ai _ _ h.2.1.2.1) (Ya h.2.1.2.2.1.2 (af ai _ _ h.2.1.2.2.2.1)))))))
@[go_sem] theorem Fn (s:Int) (l:List Int) (s2:Int) (l2:List Int) (s3:Int) (l3:List Int) (s4:Int) (l4:List Int) (hc:l.length≤1000000∧l2.length≤1000000∧l3.length≤1000000∧l4.length≤1000000):kI [.agg [.int .i64 s,.sl (l.map aa),.int .i64 s2,.sl (l2.map aa)],.agg [.int .i64 s3,.sl (l3.map aa),.int .i64 s4,.sl (l4.map aa)]]=some (.same (bE (lX ((s,l),(s2,l2)) ((s3,l3),(s4,l4))))):=(aV DF (s,l,s2,l2,s3,l3,s4,l4)).trans (an hc _)
theorem N4 (T:Tab) (aZ:T bb=mkE ii) (kg:T dN=mkE wv) (il:T dB=mkE pP) (s:Int) (l:List Int) (s2:Int) (l2:List Int) (s3:Int) (l3:List Int) (s4:Int) (l4:List Int) (hc:l.length≤1000000∧l2.length≤1000000∧l3.length≤1000000∧l4.length≤1000000) :
  wp T mf_frac_Mul.body (bG mf_frac_Mul.res (.same (bE (lX ((s,l),(s2,l2)) ((s3,l3),(s4,l4)))))) ⟨ax [.dat (.agg [.int .i64 s,.sl (l.map aa),.int .i64 s2,.sl (l2.map aa)]),.dat (.agg [.int .i64 s3,.sl (l3.map aa),.int .i64 s4,.sl (l4.map aa)])],emp⟩:=by
 refine ap ?_;simp only[mf_frac_Mul];obtain⟨hl1,hl2,hl3,hl4⟩:=hc;unfold lX
 by_cases hr:bf ((s,l),(s2,l2))=true
 ·by_cases hr2:bf ((s3,l3),(s4,l4))=true
  ·have m1:=kD (s,l) (s3,l3)
   have m2:=kD (s2,l2) (s4,l4);rw[if_pos hr,if_pos hr2];dsimp only;generalize hM1:gC (s,l) (s3,l3)=M1 at *;generalize hM2:gC (s2,l2) (s4,l4)=M2 at *;obtain⟨⟨a1,a2⟩,e1⟩:=M1;obtain⟨⟨b1,b2⟩,e2⟩:=M2;refine qI ?_
   repeat' (intro h<;>simp only[h,go_sem,go_sem_proc,Yb,aZ,kg,il,hl1,hl2,hl3,hl4,hr,hr2,hM1,hM2,m1,m2,dR,bF,bE,ad]<;>try refine qS ?_ ?_)
  ·have hr2:bf ((s3,l3),(s4,l4))=false:=by simpa using hr2
   rw[if_pos hr,if_neg (by simp [hr2])];refine qI ?_
   repeat' (intro h<;>simp only[h,go_sem,go_sem_proc,Yb,aZ,kg,il,hl1,hl2,hl3,hl4,hr,hr2,bE,ad,bz,Yc]<;>try refine qS ?_ ?_)
 ·have hr:bf ((s,l),(s2,l2))=false:=by simpa using hr
  rw[if_neg (by simp [hr])];refine qI ?_
  repeat' (intro h<;>simp only[h,go_sem,go_sem_proc,Yb,aZ,kg,il,hl1,hl2,hl3,hl4,hr,bE,ad,bz,Yc]<;>try refine qS ?_ ?_)
noncomputable def o6:List Data→Option PRes:=FF (α:=Int × (List Int) × Int × (List Int) × Int × (List Int) × Int × (List Int)) (fun (s,l,s2,l2,s3,l3,s4,l4)=>([.agg [.int .i64 s,.sl (l.map aa),.int .i64 s2,.sl (l2.map aa)],.agg [.int .i64 s3,.sl (l3.map aa),.int .i64 s4,.sl (l4.map aa)]]:List Data)) (fun (s,l,s2,l2,s3,l3,s4,l4)=>aG (l.length≤1000000∧l2.length≤1000000∧l3.length≤1000000∧l4.length≤1000000) (.same (bE (iY ((s,l),(s2,l2)) ((s3,l3),(s4,l4))))))
theorem Ci:∀ a b:Int × (List Int) × Int × (List Int) × Int × (List Int) × Int × (List Int),(fun (s,l,s2,l2,s3,l3,s4,l4)=>([.agg [.int .i64 s,.sl (l.map aa),.int .i64 s2,.sl (l2.map aa)],.agg [.int .i64 s3,.sl (l3.map aa),.int .i64 s4,.sl (l4.map aa)]]:List Data)) a=(fun (s,l,s2,l2,s3,l3,s4,l4)=>([.agg [.int .i64 s,.sl (l.map aa),.int .i64 s2,.sl (l2.map aa)],.agg [.int .i64 s3,.sl (l3.map aa),.int .i64 s4,.sl (l4.map aa)]]:List Data)) b→a=b:=by
  rintro⟨s1,l1,s21,l21,s31,l31,s41,l41⟩ ⟨s2,l2,s22,l22,s32,l32,s42,l42⟩ h;simp only[List.cons.injEq,Data.agg.injEq,Data.int.injEq,Data.sl.injEq] at h;exact Ya h.1.1.2 (Ya (af ai _ _ h.1.2.1) (Ya h.1.2.2.1.2 (Ya (af ai _ _ h.1.2.2.2.1) (Ya h.2.1.1.2 (Ya (af ai _ _ h.2.1.2.1) (Ya h.2.1.2.2.1.2 (af ai _ _ h.2.1.2.2.2.1)))))))
@[go_sem] theorem Gp (s:Int) (l:List Int) (s2:Int) (l2:List Int) (s3:Int) (l3:List Int) (s4:Int) (l4:List Int) (hc:l.length≤1000000∧l2.length≤1000000∧l3.length≤1000000∧l4.length≤1000000):o6 [.agg [.int .i64 s,.sl (l.map aa),.int .i64 s2,.sl (l2.map aa)],.agg [.int .i64 s3,.sl (l3.map aa),.int .i64 s4,.sl (l4.map aa)]]=some (.same (bE (iY ((s,l),(s2,l2)) ((s3,l3),(s4,l4))))):=(aV Ci (s,l,s2,l2,s3,l3,s4,l4)).trans (an hc _)
theorem Ot (T:Tab) (aZ:T bb=mkE ii) (kg:T dN=mkE wv) (il:T dB=mkE pP) (s:Int) (l:List Int) (s2:Int) (l2:List Int) (s3:Int) (l3:List Int) (s4:Int) (l4:List Int) (hc:l.length≤1000000∧l2.length≤1000000∧l3.length≤1000000∧l4.length≤1000000) :
  wp T mf_frac_Div.body (bG mf_frac_Div.res (.same (bE (iY ((s,l),(s2,l2)) ((s3,l3),(s4,l4)))))) ⟨ax [.dat (.agg [.int .i64 s,.sl (l.map aa),.int .i64 s2,.sl (l2.map aa)]),.dat (.agg [.int .i64 s3,.sl (l3.map aa),.int .i64 s4,.sl (l4.map aa)])],emp⟩:=by
 refine ap ?_;simp only[mf_frac_Div];obtain⟨hl1,hl2,hl3,hl4⟩:=hc;unfold iY
 by_cases hr:bf ((s,l),(s2,l2))=true
 ·by_cases hr2:bf ((s3,l3),(s4,l4))=true
  ·rw[if_pos hr,if_pos hr2]
   dsimp only;rcases h0:(s3==0)
   ·have m1:=kD (s,l) (s4,l4)
    have m2:=kD (s2,l2) (s3,l3);rw[if_neg (by simp)];generalize hM1:gC (s,l) (s4,l4)=M1 at *;generalize hM2:gC (s2,l2) (s3,l3)=M2 at *;obtain⟨⟨a1,a2⟩,e1⟩:=M1;obtain⟨⟨b1,b2⟩,e2⟩:=M2;refine qI ?_
    repeat' (intro h<;>simp only[h,go_sem,go_sem_proc,Yb,aZ,kg,il,hl1,hl2,hl3,hl4,hr,hr2,h0,hM1,hM2,m1,m2,dR,bF,bE,ad]<;>try refine qS ?_ ?_)
   ·rw[if_pos rfl]
    refine qI ?_
    repeat' (intro h<;>simp only[h,go_sem,go_sem_proc,Yb,aZ,kg,il,hl1,hl2,hl3,hl4,hr,hr2,h0,bE,ad,bz,Yc]<;>try refine qS ?_ ?_)
  ·have hr2:bf ((s3,l3),(s4,l4))=false:=by simpa using hr2
   rw[if_pos hr,if_neg (by simp [hr2])];refine qI ?_
   repeat' (intro h<;>simp only[h,go_sem,go_sem_proc,Yb,aZ,kg,il,hl1,hl2,hl3,hl4,hr,hr2,bE,ad,bz,Yc]<;>try refine qS ?_ ?_)
 ·have hr:bf ((s,l),(s2,l2))=false:=by simpa using hr
  rw[if_neg (by simp [hr])];refine qI ?_
  repeat' (intro h<;>simp only[h,go_sem,go_sem_proc,Yb,aZ,kg,il,hl1,hl2,hl3,hl4,hr,bE,ad,bz,Yc]<;>try refine qS ?_ ?_)
def zO (c:Bool) (v:Rat):aU × Int:=if c=true then (ak v,0) else (bz,6)
def okZ (z:Int):Bool:=decide (z.natAbs<LIM)
def jE (x y:Rat):Bool:=okZ (x.num*y.den)&&(okZ (y.num*x.den)&&(okZ (x.num*y.den+y.num*x.den)&&okZ ((x.den:Int)*y.den)))
def qh (x y:Rat):Bool:=okZ (x.num*y.num)&&okZ ((x.den:Int)*y.den)
def ob (x y:Rat):Bool:=okZ (x.num*y.den)&&okZ ((x.den:Int)*y.num)
theorem iH {z:Int} (h:okZ z=true):lj z=(aP z,0):=if_pos (by simpa [okZ] using h)
theorem jS {z:Int} (h:okZ z=false):lj z=((0,[]),6):=if_neg (by simpa [okZ] using h)
theorem gY {z:Int} (h:okZ z=true):z.natAbs<LIM:=by simpa [okZ] using h
theorem Ku {a b c d:Int} (ha:a.natAbs<LIM) (hb:b.natAbs<LIM) (hc:c.natAbs<LIM) (hd:d.natAbs<LIM) :
  ua (aP a) (aP b) (aP c) (aP d)=if (okZ (a*b)&&(okZ (c*d)&&okZ (a*b+c*d)))=true then (aP (a*b+c*d),0) else ((0,[]),6):=by
 unfold ua;rw[jI ha hb,jI hc hd];rcases h1:okZ (a*b)
 ·rw[jS h1];rfl
 ·rw[iH h1]
  rcases h2:okZ (c*d)
  ·rw[jS h2];rfl
  ·rw[iH h2]
   show qQ (aP (a*b)) (aP (c*d))=_;rw[An (gY h1) (gY h2)];rcases h3:okZ (a*b+c*d)
   ·rw[jS h3];rfl
   ·rw[iH h3];rfl
theorem pr (x y:Rat):YG (x.num*y.den+y.num*x.den) ((x.den:Int)*y.den)=x+y:=by
 rw[←Rat.divInt_add_divInt _ _ (by have:=den_pos x;omega) (by have:=den_pos y;omega),YH,YH]
theorem pa (x y:Rat):YG (x.num*y.num) ((x.den:Int)*y.den)=x*y:=by
 rw[←YO,YH,YH]
theorem um (x y:Rat):YG (x.num*y.den) ((x.den:Int)*y.num)=x / y:=by
 rw[←YO,YH,←Rat.inv_divInt,YH]
 rfl
theorem lQ (x:Rat):(x.den:Int)≠0:=by have:=den_pos x;omega
theorem A8 {x y:Rat} (hx:cy x) (hy:cy y):uA (ak x) (ak y)=zO (jE x y) (x+y):=by
 unfold uA;rw[if_pos (eL hx),if_pos (eL hy)]
 show nu (ua (aP x.num) (aP y.den) (aP y.num) (aP x.den)) (gC (aP x.den) (aP y.den))=_;rw[Ku hx.1 (tV hy) hy.1 (tV hx),jI (tV hx) (tV hy)];unfold jE;rcases h1:okZ (x.num*y.den)
 ·rfl
 ·rcases h2:okZ (y.num*x.den)
  ·rfl
  ·rcases h3:okZ (x.num*y.den+y.num*x.den)
   ·rfl
   ·rcases h4:okZ ((x.den:Int)*y.den)
    ·rw[jS h4];rfl
    ·rw[iH h4]
     show fH (aP (x.num*y.den+y.num*x.den)) (aP ((x.den:Int)*y.den))=(ak (x+y),0)
     rw[i7 (gY h3) (gY h4) (YP (lQ x) (lQ y)),pr]
theorem Je {x:Rat} (h:cy x):cy (-x):=⟨by rw[Rat.neg_num];have:=h.1;omega,by rw[Rat.neg_den];exact h.2⟩
theorem pN {x y:Rat} (hx:cy x) (hy:cy y):nv (ak x) (ak y)=zO (jE x (-y)) (x-y):=by
 unfold nv;rw[if_pos (eL hx),if_pos (eL hy)]
 have:(iO (ak y).1,(ak y).2)=ak (-y):=by
  unfold ak;have:iO (aP y.num)=aP (-y.num):=by unfold iO;rw[if_pos (bJ hy.1),aQ]
  dsimp only;rw[this];rfl
 rw[this,A8 hx (Je hy),YQ]
theorem tv {x y:Rat} (hx:cy x) (hy:cy y):lX (ak x) (ak y)=zO (qh x y) (x*y):=by
 unfold lX;rw[if_pos (eL hx),if_pos (eL hy)]
 show nu (gC (aP x.num) (aP y.num)) (gC (aP x.den) (aP y.den))=_;rw[jI hx.1 hy.1,jI (tV hx) (tV hy)];unfold qh;rcases h1:okZ (x.num*y.num)
 ·rw[jS h1];rfl
 ·rw[iH h1]
  rcases h4:okZ ((x.den:Int)*y.den)
  ·rw[jS h4];rfl
  ·rw[iH h4]
   show fH (aP (x.num*y.num)) (aP ((x.den:Int)*y.den))=(ak (x*y),0)
   rw[i7 (gY h1) (gY h4) (YP (lQ x) (lQ y)),pa]
theorem qY {x y:Rat} (hx:cy x) (hy:cy y) (h0:y≠0):iY (ak x) (ak y)=zO (ob x y) (x / y):=by
 unfold iY;rw[if_pos (eL hx),if_pos (eL hy)];have hn:y.num≠0:=fun h=>h0 (Rat.num_eq_zero.1 h)
 have:((ak y).1.1==0)=false:=by
  show (y.num.sign==0)=false
  simpa using hn
 rw[this,if_neg (by simp)]
 show nu (gC (aP x.num) (aP y.den)) (gC (aP x.den) (aP y.num))=_;rw[jI hx.1 (tV hy),jI (tV hx) hy.1];unfold ob;rcases h1:okZ (x.num*y.den)
 ·rw[jS h1];rfl
 ·rw[iH h1]
  rcases h4:okZ ((x.den:Int)*y.num)
  ·rw[jS h4];rfl
  ·rw[iH h4]
   show fH (aP (x.num*y.den)) (aP ((x.den:Int)*y.num))=(ak (x / y),0)
   rw[i7 (gY h1) (gY h4) (YP (lQ x) hn),um]
theorem Lv {x y:Rat} (h:jE x y=true):cy (x+y):=by
 unfold jE at h;simp only[YI] at h;rw[←pr];exact mO (gY h.2.2.1) (gY h.2.2.2)
theorem ED {x y:Rat} (h:jE x (-y)=true):cy (x-y):=by rw[YQ];exact Lv h
theorem D8 {x y:Rat} (h:qh x y=true):cy (x*y):=by
 unfold qh at h;simp only[YI] at h;rw[←pa];exact mO (gY h.1) (gY h.2)
theorem Mg {x y:Rat} (h:ob x y=true):cy (x / y):=by
 unfold ob at h;simp only[YI] at h;rw[←um];exact mO (gY h.1) (gY h.2)
def mM (x y:Rat):Int:=(x.num*y.den-y.num*x.den).sign
def pe (a b:aU):Int:=if bf a=true then (if bf b=true then (gM a.1*gM b.2-gM b.1*gM a.2).sign else 0) else 0
theorem uJ {x y:Rat} (hx:cy x) (hy:cy y):pe (ak x) (ak y)=mM x y:=by
 unfold pe;rw[if_pos (eL hx),if_pos (eL hy)];unfold ak mM;rw[aQ,aQ,aQ,aQ]
theorem qm {p q:Int} (hq:0<q):0≤p.fmod q∧p.fmod q<q:=⟨Int.fmod_nonneg_of_pos _ hq,Int.fmod_lt_of_pos _ hq⟩
theorem JE {p q r s:Int} (hq:0<q) (hs:0<s) (h:p.fdiv q<r.fdiv s):p*s-r*q<0:=by
 have e1:=YR p q;have e2:=YR r s;have b1:=qm (p:=p) hq;have b2:=qm (p:=r) hs;generalize p.fdiv q=x at *;generalize r.fdiv s=y at *;generalize p.fmod q=u at *;generalize r.fmod s=v at *;subst e1 e2;have h1:q*s*(x+1)≤q*s*y:=Int.mul_le_mul_of_nonneg_left (by omega) (Yy (Int.mul_pos hq hs));have h2:u*s<q*s:=Int.mul_lt_mul_of_pos_right b1.2 hs;have h3:0≤v*q:=Yx b2.1 (by omega);have e3:(q*x+u)*s-(s*y+v)*q=q*s*(x+1)-q*s*y+(u*s-q*s)-v*q:=by grind
 omega
theorem N0 {p q r s:Int} (h:p.fdiv q=r.fdiv s):p*s-r*q=p.fmod q*s-r.fmod s*q:=by
 have e1:=YR p q;have e2:=YR r s;rw[h] at e1;generalize r.fdiv s=y at *;generalize p.fmod q=u at *;generalize r.fmod s=v at *;subst e1 e2;grind
theorem ww (a b:Int):(a-b).sign = -(b-a).sign:=by rw[←Yg];congr 1;omega
theorem vY {p q:Int} (hp:p.natAbs<LIM) (hq:q.natAbs<LIM) (h0:0<q) :
  jj (p.sign,dg p.natAbs) (q.sign,dg q.natAbs)=(((p.fdiv q).sign,dg (p.fdiv q).natAbs),((p.fmod q).sign,dg (p.fmod q).natAbs),0):=lf hp hq (by omega)
noncomputable def d7:List Data→Option PRes:=FF (α:=Int × (List Int) × Int × (List Int) × Int × (List Int) × Int × (List Int)) (fun (s,l,s2,l2,s3,l3,s4,l4)=>([.agg [.int .i64 s,.sl (l.map aa),.int .i64 s2,.sl (l2.map aa)],.agg [.int .i64 s3,.sl (l3.map aa),.int .i64 s4,.sl (l4.map aa)]]:List Data)) (fun (s,l,s2,l2,s3,l3,s4,l4)=>aG (l.length≤1000000∧l2.length≤1000000∧l3.length≤1000000∧l4.length≤1000000) (.same (.int .i64 (pe ((s,l),(s2,l2)) ((s3,l3),(s4,l4))))))
theorem tq:∀ a b:Int × (List Int) × Int × (List Int) × Int × (List Int) × Int × (List Int),(fun (s,l,s2,l2,s3,l3,s4,l4)=>([.agg [.int .i64 s,.sl (l.map aa),.int .i64 s2,.sl (l2.map aa)],.agg [.int .i64 s3,.sl (l3.map aa),.int .i64 s4,.sl (l4.map aa)]]:List Data)) a=(fun (s,l,s2,l2,s3,l3,s4,l4)=>([.agg [.int .i64 s,.sl (l.map aa),.int .i64 s2,.sl (l2.map aa)],.agg [.int .i64 s3,.sl (l3.map aa),.int .i64 s4,.sl (l4.map aa)]]:List Data)) b→a=b:=by
  rintro⟨s1,l1,s21,l21,s31,l31,s41,l41⟩ ⟨s2,l2,s22,l22,s32,l32,s42,l42⟩ h;simp only[List.cons.injEq,Data.agg.injEq,Data.int.injEq,Data.sl.injEq] at h;exact Ya h.1.1.2 (Ya (af ai _ _ h.1.2.1) (Ya h.1.2.2.1.2 (Ya (af ai _ _ h.1.2.2.2.1) (Ya h.2.1.1.2 (Ya (af ai _ _ h.2.1.2.1) (Ya h.2.1.2.2.1.2 (af ai _ _ h.2.1.2.2.2.1)))))))
@[go_sem] theorem oU (s:Int) (l:List Int) (s2:Int) (l2:List Int) (s3:Int) (l3:List Int) (s4:Int) (l4:List Int) (hc:l.length≤1000000∧l2.length≤1000000∧l3.length≤1000000∧l4.length≤1000000):d7 [.agg [.int .i64 s,.sl (l.map aa),.int .i64 s2,.sl (l2.map aa)],.agg [.int .i64 s3,.sl (l3.map aa),.int .i64 s4,.sl (l4.map aa)]]=some (.same (.int .i64 (pe ((s,l),(s2,l2)) ((s3,l3),(s4,l4))))):=(aV tq (s,l,s2,l2,s3,l3,s4,l4)).trans (an hc _)
theorem CY (T:Tab) (aZ:T bb=mkE ii) (kd:T io=mkE El) (fQ:T lc=mkE rQ) (s:Int) (l:List Int) (s2:Int) (l2:List Int) (s3:Int) (l3:List Int) (s4:Int) (l4:List Int) (hc:l.length≤1000000∧l2.length≤1000000∧l3.length≤1000000∧l4.length≤1000000) :
  wp T mf_frac_Compare.body (bG mf_frac_Compare.res (.same (.int .i64 (pe ((s,l),(s2,l2)) ((s3,l3),(s4,l4)))))) ⟨ax [.dat (.agg [.int .i64 s,.sl (l.map aa),.int .i64 s2,.sl (l2.map aa)]),.dat (.agg [.int .i64 s3,.sl (l3.map aa),.int .i64 s4,.sl (l4.map aa)])],emp⟩:=by
 refine ap ?_;simp only[mf_frac_Compare];obtain⟨hl1,hl2,hl3,hl4⟩:=hc
 by_cases hr:bf ((s,l),(s2,l2))=true
 ·by_cases hr2:bf ((s3,l3),(s4,l4))=true
  ·obtain⟨x,hx,e⟩:=(kN _).1 hr
   obtain⟨y,hy,e2⟩:=(kN _).1 hr2;have hm:pe ((s,l),(s2,l2)) ((s3,l3),(s4,l4))=mM x y:=by rw[e,e2,uJ hx hy]
   rw[hm];clear hm;have ea:(s,l)=aP x.num:=congrArg YN e;have eb:(s2,l2)=aP x.den:=congrArg Prod.snd e;have ec:(s3,l3)=aP y.num:=congrArg YN e2;have ed:(s4,l4)=aP y.den:=congrArg Prod.snd e2;clear e e2;have hxd:=tV hx;have hyd:=tV hy;have hx0:=den_pos x;have hy0:=den_pos y;have hxn:=hx.1;have hyn:=hy.1;unfold mM;generalize x.num=P at *;generalize (x.den:Int)=Q at *;generalize y.num=R at *;generalize (y.den:Int)=S at *
   cases ea
   cases eb
   cases ec
   cases ed;simp only[go_sem,go_sem_proc,Yb,aZ,kd,fQ,hl1,hl2,hl3,hl4,hr,hr2];refine ae [5,6,7,8] [135002,135003] (fun ((sg,p,q,r,t):Int × Int × Int × Int × Int) tm mem=>(sg=1∨sg = -1)∧0<q∧0<t∧p.natAbs<LIM∧q.natAbs<LIM∧r.natAbs<LIM∧t.natAbs<LIM∧(P*S-R*Q).sign=sg*(p*t-r*q).sign∧tm 9 = .dat (.int .i64 sg)∧mem 135005=some (0,[.dat (.int .i64 p.sign),.dat (.sl ((dg p.natAbs).map aa))])∧mem 135006=some (0,[.dat (.int .i64 q.sign),.dat (.sl ((dg q.natAbs).map aa))])∧mem 135007=some (0,[.dat (.int .i64 r.sign),.dat (.sl ((dg r.natAbs).map aa))])∧mem 135008=some (0,[.dat (.int .i64 t.sign),.dat (.sl ((dg t.natAbs).map aa))])) (fun (_,_,q,_,_)=>q.natAbs) (1,P,Q,R,S) (by refine⟨.inl rfl,hx0,hy0,hxn,hxd,hyn,hyd,by rw[X1],rfl,?_,?_,?_,?_⟩<;>rfl) ?_
   intro vs ms hvs hms;simp only[go_sem,go_sem_proc,Yb,aZ,kd,fQ] at hvs hms;subst hvs hms;rintro⟨sg,p,q,r,t⟩ tm mem hk hm ⟨hsg,hq0,ht0,hp,hq,hrr,ht,hval,h9,m5,m6,m7,m8⟩;simp only[go_sem,go_sem_proc,Yb,aZ,kd,fQ,List.cons.injEq] at hk hm;obtain⟨h5,h6,h7,h8⟩:=hk;have lp:=eP hp;have lq:=eP hq;have lr:=eP hrr;have lt:=eP ht;have hd1:=vY hp hq hq0;have hd2:=vY hrr ht ht0;have bx:=mh (y:=q) hp (by omega);have by':=mh (y:=t) hrr (by omega)
   have lx:=eP bx;have ly:=eP by'
   have hcm:uN ((p.fdiv q).sign,dg (p.fdiv q).natAbs) ((r.fdiv t).sign,dg (r.fdiv t).natAbs)=fW (p.fdiv q) (r.fdiv t):=Ax bx by'
   have bu:=qm (p:=p) hq0;have bv:=qm (p:=r) ht0;have hneg1:IntKind.i64.wrap (0-sg) = -sg:=by rcases hsg with rfl | rfl<;>rfl
   rcases YL (p.fdiv q) (r.fdiv t) with hlt | heq | hgt
   ·have hv:=JE hq0 ht0 hlt
    rw[p6 hlt] at hcm;rw[hval,Yq hv];have hw:IntKind.i64.wrap (sg * -1)=sg * -1:=by rcases hsg with rfl | rfl<;>rfl
    refine qI ?_
    repeat' (intro h<;>simp only[h,go_sem,go_sem_proc,Yb,aZ,kd,fQ,h5,h6,h7,h8,h9,hm,m5,m6,m7,m8,lp,lq,lr,lt,lx,ly,hd1,hd2,hcm,hw,dj,bF,show ((-1:Int)==0)=false from rfl]<;>try refine qS ?_ ?_)
   ·have hv:=N0 heq
    rw[heq,sM] at hcm
    have hw2:∀ a:Int,-1≤a→a≤1→IntKind.i64.wrap (sg*a)=sg*a:=by
     intro a h1 h2;rcases hsg with rfl | rfl<;>exact aj _ (by omega) (by omega)
    rw[heq] at hd1 lx;have bul:(p.fmod q).natAbs<LIM:=by omega
    have bvl:(r.fmod t).natAbs<LIM:=by omega
    rw[hv] at hval;generalize p.fmod q=u at *;generalize r.fmod t=v at *
    by_cases hu:u=0
    ·subst hu
     have hs:(0*t-v*q).sign=(0:Int).sign-v.sign:=by
      rw[X2,YS,Yg,Yd,Yh hq0,X4,YT,YS]
     rw[hs] at hval;rw[hval];have h3:=dY v;have hw0:IntKind.i64.wrap ((0:Int).sign-v.sign)=(0:Int).sign-v.sign:=aj _ (by rw[YT];omega) (by rw[YT];omega);have hw:=hw2 ((0:Int).sign-v.sign) (by rw[YT];omega) (by rw[YT];omega);refine qI ?_
     repeat' (intro h<;>simp only[h,go_sem,go_sem_proc,Yb,aZ,kd,fQ,h5,h6,h7,h8,h9,hm,m5,m6,m7,m8,lp,lq,lr,lt,lx,ly,hd1,hd2,hcm,hw,hw0,dj,bF,show ((0:Int)==0)=true from rfl,show ((0:Int).sign==0)=true from rfl]<;>try refine qS ?_ ?_)
    ·have hu0:0<u:=by omega
     have hu1:(u.sign==0)=false:=by simpa using hu
     by_cases hv0:v=0
     ·subst hv0
      have hs:(u*t-0*q).sign=u.sign-(0:Int).sign:=by
       rw[X2,YU,Yd,Yh ht0,X4,YT,YU]
      rw[hs] at hval;rw[hval];have h3:=dY u;have hw0:IntKind.i64.wrap (u.sign-(0:Int).sign)=u.sign-(0:Int).sign:=aj _ (by rw[YT];omega) (by rw[YT];omega);have hw:=hw2 (u.sign-(0:Int).sign) (by rw[YT];omega) (by rw[YT];omega);refine qI ?_
      repeat' (intro h<;>simp only[h,go_sem,go_sem_proc,Yb,aZ,kd,fQ,h5,h6,h7,h8,h9,hm,m5,m6,m7,m8,lp,lq,lr,lt,lx,ly,hd1,hd2,hcm,hw,hw0,hu1,dj,bF,show ((0:Int)==0)=true from rfl,show ((0:Int).sign==0)=true from rfl]<;>try refine qS ?_ ?_)
     ·have hv1:(v.sign==0)=false:=by simpa using hv0
      refine qI ?_
      repeat' (intro h<;>simp only[h,go_sem,go_sem_proc,Yb,aZ,kd,fQ,h5,h6,h7,h8,h9,hm,m5,m6,m7,m8,lp,lq,lr,lt,lx,ly,hd1,hd2,hcm,hu1,hv1,hneg1,dj,bF,show ((0:Int)==0)=true from rfl]<;>try refine qS ?_ ?_)
      refine⟨(-sg,q,u,t,v),by dsimp only;omega,by dsimp only;omega,by dsimp only;omega,by dsimp only;omega,by dsimp only;omega,by dsimp only;omega,by dsimp only;omega,by dsimp only;omega,?_,by simp [go_sem],by simp [go_sem],by simp [go_sem],by simp [go_sem],by simp [go_sem]⟩
      dsimp only;rw[hval,ww (q*v) (t*u),Int.neg_mul_neg,YE t u,YE q v]
   ·have hv:=JE ht0 hq0 hgt
    rw[qG hgt] at hcm;rw[hval,ww,Yq hv];have hw:IntKind.i64.wrap (sg*1)=sg * -(-1):=by rcases hsg with rfl | rfl<;>rfl
    refine qI ?_
    repeat' (intro h<;>simp only[h,go_sem,go_sem_proc,Yb,aZ,kd,fQ,h5,h6,h7,h8,h9,hm,m5,m6,m7,m8,lp,lq,lr,lt,lx,ly,hd1,hd2,hcm,hw,dj,bF,show ((1:Int)==0)=false from rfl]<;>try refine qS ?_ ?_)
  ·have hr2:bf ((s3,l3),(s4,l4))=false:=by simpa using hr2
   have hm:pe ((s,l),(s2,l2)) ((s3,l3),(s4,l4))=0:=by unfold pe;rw[if_pos hr,if_neg (by simp [hr2])]
   rw[hm];refine qI ?_
   repeat' (intro h<;>simp only[h,go_sem,go_sem_proc,Yb,aZ,kd,fQ,hl1,hl2,hl3,hl4,hr,hr2]<;>try refine qS ?_ ?_)
 ·have hr:bf ((s,l),(s2,l2))=false:=by simpa using hr
  have hm:pe ((s,l),(s2,l2)) ((s3,l3),(s4,l4))=0:=by unfold pe;rw[if_neg (by simp [hr])]
  rw[hm];refine qI ?_
  repeat' (intro h<;>simp only[h,go_sem,go_sem_proc,Yb,aZ,kd,fQ,hl1,hl2,hl3,hl4,hr]<;>try refine qS ?_ ?_)
end Go.Mini
