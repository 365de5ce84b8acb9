/- A part of the proof. -/
import Derived.Test.YtdbkjjoedjfmpaaGreatM05
import Derived.Test.YtdbkjjoedjfmpaaGreatM04
set_option linter.unusedSimpArgs false
set_option linter.unusedVariables false
open Nat renaming div_add_mod → Yx, eq_zero_or_pos → Yy, mod_lt → Yz, zero_mod → YJ, mul_le_mul_right → YK, div_le_self → YL, le_of_lt → YT, pos_of_ne_zero → YZ, reduceMul → Zw, gcd → ZC
open Int renaming ofNat_sub → YA, natCast_add → YB, mul_neg → YC, mul_add → YD, neg_mul → YE, one_mul → YF, zero_mul → YG, mul_zero → YH, mul_one → YI, natAbs_mul → YM, natAbs_natCast → YN, sign_eq_zero_iff_zero → YR, sign_mul → YS, natAbs_neg → YU, sign_neg → YV, sign_eq_one_of_pos → YW, sign_sign → YX, sign_eq_neg_one_of_neg → Y5, natCast_zero → Y6, cast_ofNat_Int → Y7, mul_nonneg → Zj, le_of_lt → Zm, pow_pos → Zr, reducePow → Zy, toNat_natCast → ZA, mul_comm → ZB, fdiv_eq_ediv_of_nonneg → ZH, lt_trichotomy → ZJ, mul_ne_zero → ZN, mul_fdiv_add_fmod → ZP, zero_sub → ZQ, sign_zero → ZR, sub_zero → ZS
open Prod renaming ext → YO, ext_iff → Y2, fst → ZL
open Bool renaming false_eq_true → YP, and_false → Y0, false_and → Y1, and_eq_true → ZF, true_and → ZG
open List renaming map_nil → YQ, length_map → YY, append_nil → Y4, take_length → Y8, length → Y9, length_append → Zd, append_assoc → Zg, getElem?_map → Zz
open Decidable renaming em → Y3
open Rat renaming divInt → ZD, num_divInt_den → ZE, neg_divInt_neg → ZK, divInt_mul_divInt → ZM, sub_eq_add_neg → ZO
namespace Go.Mini
open Go
set_option maxRecDepth 10000
set_option maxHeartbeats 2000000
def jv (a b:Raw):Raw × Raw × Int :=
 if (aK a&&aK b)=true then
  if gV b=0 then ((0,[]),(0,[]),15) else (aS ((gV a).fdiv (gV b)),aS ((gV a).fmod (gV b)),0)
 else ((0,[]),(0,[]),1)
def dm (x:Raw × Raw × Int):Data:=.tup [.agg (bH x.1),.agg (bH x.2.1),.int .i64 x.2.2]
theorem Fn {x y q r:Int} (h:r+y*q=x) (hr:(0≤r∧r<y)∨(y<r∧r≤0)):x.fdiv y=q∧x.fmod y=r:=by
 rcases hr with ⟨h1,h2⟩ | ⟨h1,h2⟩
 ·exact (Int.fdiv_fmod_unique (by omega)).2 ⟨h,h1,h2⟩
 ·exact (Int.fdiv_fmod_unique' (by omega)).2 ⟨h,h1,h2⟩
theorem oP {x y:Int} (h:x.sign*y.sign<0) (hm:x.natAbs % y.natAbs≠0) :
  x.fdiv y = -((x.natAbs / y.natAbs+1:Nat):Int)∧x.fmod y=y.sign*((y.natAbs-x.natAbs % y.natAbs:Nat):Int):=by
 have h2:=Yx x.natAbs y.natAbs;generalize hQ:x.natAbs / y.natAbs=Q at *;generalize hR:x.natAbs % y.natAbs=R at *
 have hy:0<y.natAbs:=by
  rcases Yy y.natAbs with h0 | h0
  ·rw[Int.natAbs_eq_zero.1 h0] at h;simp at h
  ·exact h0
 have hlt:R<y.natAbs:=by rw[←hR];exact Yz _ hy
 have h2':(y.natAbs:Int)*Q+R=x.natAbs:=by exact_mod_cast h2
 refine Fn ?_ ?_
 ·rcases cG x with ⟨e,h1⟩ | ⟨e,h1⟩ | ⟨e,h1⟩<;>rcases cG y with ⟨e',h3⟩ | ⟨e',h3⟩ | ⟨e',h3⟩<;>rw[e,e'] at h<;>first | omega | rw[e']
  ·rw[YA (by omega),YB,YC,YD]
   have:(y.natAbs:Int) = -y:=by omega
   rw[this] at h2' ⊢;rw[YE] at h2';omega
  ·rw[YA (by omega),YB,YC,YD]
   have:(y.natAbs:Int)=y:=by omega
   rw[this] at h2' ⊢;omega
 ·rcases cG y with ⟨e',h3⟩ | ⟨e',h3⟩ | ⟨e',h3⟩<;>rw[e']<;>omega
theorem lF {x y:Int} (hy:y≠0) (h:¬ (x.sign*y.sign<0∧x.natAbs % y.natAbs≠0)) :
  x.fdiv y=x.sign*y.sign*((x.natAbs / y.natAbs:Nat):Int)∧x.fmod y=x.sign*((x.natAbs % y.natAbs:Nat):Int):=by
 have h2:=Yx x.natAbs y.natAbs;have hlt:x.natAbs % y.natAbs<y.natAbs:=Yz _ (by omega);generalize hQ:x.natAbs / y.natAbs=Q at *;generalize hR:x.natAbs % y.natAbs=R at *;have h2':(y.natAbs:Int)*Q+R=x.natAbs:=by exact_mod_cast h2
 refine Fn ?_ ?_
 ·rcases cG x with ⟨e,h1⟩ | ⟨e,h1⟩ | ⟨e,h1⟩<;>rcases cG y with ⟨e',h3⟩ | ⟨e',h3⟩ | ⟨e',h3⟩<;>first | omega | (rw[e,e'])
  ·rw[show (y.natAbs:Int)=y by omega] at h2';simp only[YF];omega
  ·rw[show (y.natAbs:Int) = -y by omega,YE] at h2';simp only[YF,YE,YC];omega
  ·simp only[YG,YH];omega
  ·simp only[YG,YH];omega
  ·rw[show (y.natAbs:Int)=y by omega] at h2';simp only[YF,YE,YC,YI];omega
  ·rw[show (y.natAbs:Int) = -y by omega,YE] at h2';simp only[YF,YE,YC,Int.neg_neg];omega
 ·have hR0:x.natAbs=0→R=0:=by
   intro h0;rw[←hR,h0,YJ]
  rcases cG x with ⟨e,h1⟩ | ⟨e,h1⟩ | ⟨e,h1⟩<;>rcases cG y with ⟨e',h3⟩ | ⟨e',h3⟩ | ⟨e',h3⟩<;>rw[e,e'] at h<;>rw[e]<;>omega
theorem mn {x y:Int} (hx:x.natAbs<LIM) (hy0:y≠0):(x.fdiv y).natAbs<LIM:=by
 by_cases h:x.sign*y.sign<0∧x.natAbs % y.natAbs≠0
 ·have hf:=(oP h.1 h.2).1
  have h2:=Yx x.natAbs y.natAbs
  have:x.natAbs / y.natAbs+1≤x.natAbs:=by
   have hy2:2≤y.natAbs:=by
    rcases Nat.lt_or_ge y.natAbs 2 with h0 | h0
    ·have:y.natAbs=1:=by omega
     rw[this,Nat.mod_one] at h;exact absurd rfl h.2
    ·exact h0
   have h3:2*(x.natAbs / y.natAbs)≤y.natAbs*(x.natAbs / y.natAbs):=YK _ hy2;omega
  generalize x.natAbs / y.natAbs=Q at *;omega
 ·have hf:=(lF hy0 h).1
  have h3:x.natAbs / y.natAbs≤x.natAbs:=YL _ _
  have h4:(x.fdiv y).natAbs≤x.natAbs / y.natAbs:=by
   rw[hf,YM,YM,YN];have h1:x.sign.natAbs≤1:=by have:=ej x;omega
   have h2:y.sign.natAbs≤1:=by have:=ej y;omega
   have:=Nat.mul_le_mul h1 h2;have:=YK (x.natAbs / y.natAbs) this;omega
  omega
theorem Aj {x y:Int} (hy:y.natAbs<LIM) (hy0:y≠0):(x.fmod y).natAbs<LIM:=by
 by_cases h:x.sign*y.sign<0∧x.natAbs % y.natAbs≠0
 ·have hf:=(oP h.1 h.2).2
  rcases cG y with ⟨e',h3⟩ | ⟨e',h3⟩ | ⟨e',h3⟩<;>rw[e'] at hf<;>omega
 ·have hf:=(lF hy0 h).2
  have hlt:x.natAbs % y.natAbs<y.natAbs:=Yz _ (by omega);rcases cG x with ⟨e',h3⟩ | ⟨e',h3⟩ | ⟨e',h3⟩<;>rw[e'] at hf<;>omega
theorem lg {x y:Int} (hx:x.natAbs<LIM) (hy:y.natAbs<LIM) (h0:y≠0):jv (aS x) (aS y)=(aS (x.fdiv y),aS (x.fmod y),0):=by
 unfold jv;rw[bP hx,bP hy,aU,aU,if_pos (by rfl),if_neg h0]
noncomputable def Fk:List Data→Option PRes:=FF (α:=Int × (List Int) × Int × (List Int)) (fun (s,l,s2,l2)=>([.agg [.int .i64 s,.sl (l.map aa)],.agg [.int .i64 s2,.sl (l2.map aa)]]:List Data)) (fun (s,l,s2,l2)=>aH (l.length≤1000000∧l2.length≤1000000) (.same (dm (jv (s,l) (s2,l2)))))
theorem GK:∀ a b:Int × (List Int) × Int × (List Int),(fun (s,l,s2,l2)=>([.agg [.int .i64 s,.sl (l.map aa)],.agg [.int .i64 s2,.sl (l2.map aa)]]:List Data)) a=(fun (s,l,s2,l2)=>([.agg [.int .i64 s,.sl (l.map aa)],.agg [.int .i64 s2,.sl (l2.map aa)]]:List Data)) b→a=b:=by
  rintro⟨s1,l1,s21,l21⟩ ⟨s2,l2,s22,l22⟩ h;simp only[List.cons.injEq,Data.agg.injEq,Data.int.injEq,Data.sl.injEq] at h;exact YO h.1.1.2 (YO (af aj _ _ h.1.2.1) (YO h.2.1.1.2 (af aj _ _ h.2.1.2.1)))
@[go_sem] theorem Rg (s:Int) (l:List Int) (s2:Int) (l2:List Int) (hc:l.length≤1000000∧l2.length≤1000000):Fk [.agg [.int .i64 s,.sl (l.map aa)],.agg [.int .i64 s2,.sl (l2.map aa)]]=some (.same (dm (jv (s,l) (s2,l2)))):=(aY GK (s,l,s2,l2)).trans (al hc _)
theorem R8 (T:Tab) (ao:T ba=mkE ei) (iL:T lc=mkE E4) (gD:T kZ=mkE FA) (gC:T jw=mkE EV) (aO:T bE=mkE jU) (s:Int) (l:List Int) (s2:Int) (l2:List Int) (hc:l.length≤1000000∧l2.length≤1000000) :
  wp T mf_big_Div.body (bF mf_big_Div.res (.same (dm (jv (s,l) (s2,l2))))) ⟨ax [.dat (.agg [.int .i64 s,.sl (l.map aa)]),.dat (.agg [.int .i64 s2,.sl (l2.map aa)])],emp⟩:=by
 refine ap ?_;simp only[mf_big_Div];obtain⟨hl1,hl2⟩:=hc
 by_cases hr:aK (s,l)=true
 ·by_cases hr2:aK (s2,l2)=true
  ·obtain⟨x,hx,e⟩:=(bn _).1 hr
   obtain⟨y,hy,e2⟩:=(bn _).1 hr2
   by_cases hy0:y=0
   ·have hm:jv (s,l) (s2,l2)=((0,[]),(0,[]),15):=by
     rw[e,e2];unfold jv
     rw[bP hx,bP hy,aU,aU,if_pos (by rfl),if_pos hy0]
    rw[hm]
    cases e
    cases e2;have h0:((y.sign:Int)==0)=true:=by rw[hy0];rfl
    simp only[go_sem,go_sem_proc,YP,ao,iL,gD,gC,aO,hr,hr2,hl1,hl2,h0,bH,dm,YQ]
    repeat' (first|refine qS ?_ ?_|fail)<;>intro h<;>simp only[h,go_sem,go_sem_proc,YP,ao,iL,gD,gC,aO,hr,hr2,hl1,hl2,h0,bH,dm,YQ]
   ·have hm:jv (s,l) (s2,l2)=(aS (x.fdiv y),aS (x.fmod y),0):=by
     rw[e,e2];exact lg hx hy hy0
    rw[hm];clear hm
    cases e
    cases e2;have hlx:=fU hx;have hly:=fU hy;have hy0':(y.sign==0)=false:=by rw[beq_eq_false_iff_ne,Ne,YR];exact hy0
    have hypos:0<y.natAbs:=by omega
    have h1:=ej x;have h2:=ej y;have hp:x.sign*y.sign=(x*y).sign:=(YS x y).symm;have h3:=ej (x*y);have hw:IntKind.i64.wrap (x.sign*y.sign)=x.sign*y.sign:=by rw[hp];exact an _ (by omega) (by omega)
    have hdiv:=zN x.natAbs y.natAbs ⟨by omega,by omega,hypos⟩
    simp only[digs] at hdiv;have hq:=mn (y:=y) hx hy0;have hr3:=Aj (x:=x) hy hy0;have hlq:x.natAbs / y.natAbs<LIM:=Nat.lt_of_le_of_lt (YL _ _) hx;have hlq':(dg (x.natAbs / y.natAbs)).length≤60:=dg_len.2 hlq;have hlr:x.natAbs % y.natAbs<LIM:=Nat.lt_trans (Yz _ hypos) hy;have hlr':(dg (x.natAbs % y.natAbs)).length≤60:=dg_len.2 hlr
    by_cases hlow:x.sign*y.sign<0∧x.natAbs % y.natAbs≠0
    ·obtain⟨eq,er⟩:=oP hlow.1 hlow.2
     have hne:decide (((dg (x.natAbs % y.natAbs)).length:Int)>0)=true:=by
      have:dg (x.natAbs % y.natAbs)≠[]:=by rw[Ne,nb];exact hlow.2
      have:=List.length_pos_iff.2 this;exact decide_eq_true (by omega)
     have hneg:decide (x.sign*y.sign<0)=true:=decide_eq_true hlow.1;have hd1:dg 1=[1]:=by simp [dg,dgF]
     have hl1d:(dg 1).length=1:=by rw[hd1];rfl
     have hadd:=z5 (x.natAbs / y.natAbs) 1 ⟨by omega,by omega⟩
     simp only[digs,hd1,List.map_cons,YQ,aa] at hadd;have hsub:=uJ y.natAbs (x.natAbs % y.natAbs) ⟨by omega,YT (Yz _ hypos)⟩
     simp only[digs] at hsub
     have hla:(dg (x.natAbs / y.natAbs+1)).length≤1000000:=by
      have:(x.natAbs / y.natAbs+1)<LIM:=by rw[eq] at hq;rw[YU,YN] at hq;exact hq
      have:=(dg_len (k:=60)).2 this;omega
     have hlb:(dg (y.natAbs-x.natAbs % y.natAbs)).length≤1000000:=by have:=tn y.natAbs (x.natAbs % y.natAbs);omega
     have hs1:fg (-1) (dg (x.natAbs / y.natAbs+1))=aS (x.fdiv y):=dc (by rw[eq,YU,YN]) fun _=>by rw[eq,YV,YW (show (0:Int)<((x.natAbs / y.natAbs+1:Nat):Int) by exact Int.natCast_pos.2 (Nat.succ_pos _))]
     have hs2:fg y.sign (dg (y.natAbs-x.natAbs % y.natAbs))=aS (x.fmod y):=by
      refine dc ?_ fun hn=>?_
      ·rw[er];rcases cG y with ⟨e',h3⟩ | ⟨e',h3⟩ | ⟨e',h3⟩<;>rw[e']<;>omega
      ·rw[er,YS,YX,YW (show (0:Int)<((y.natAbs-x.natAbs % y.natAbs:Nat):Int) by omega),YI]
     simp only[go_sem,go_sem_proc,YP,ao,iL,gD,gC,aO,hr,hr2,hl1,hl2,hy0',hw,hdiv,hne,hneg,hadd,hsub,hla,hlb,hs1,hs2,aa,YY,bH,dm,cY]
     repeat' (first|refine qS ?_ ?_|fail)<;>intro h<;>simp only[h,go_sem,go_sem_proc,YP,ao,iL,gD,gC,aO,hr,hr2,hl1,hl2,hy0',hw,hdiv,hne,hneg,hadd,hsub,hla,hlb,hs1,hs2,aa,YY,bH,dm,cY]
    ·obtain⟨eq,er⟩:=lF hy0 hlow
     have hlow':(decide (x.sign*y.sign<0)=true∧decide (((dg (x.natAbs % y.natAbs)).length:Int)>0)=false)∨decide (x.sign*y.sign<0)=false:=by
      by_cases hn:x.sign*y.sign<0
      ·left
       have:x.natAbs % y.natAbs=0:=Decidable.not_not.1 fun h=>hlow ⟨hn,h⟩
       rw[this];exact⟨decide_eq_true hn,rfl⟩
      ·right;exact decide_eq_false hn
     have hla:(dg (x.natAbs / y.natAbs)).length≤1000000:=by omega
     have hlb:(dg (x.natAbs % y.natAbs)).length≤1000000:=by omega
     have hs1:fg (x.sign*y.sign) (dg (x.natAbs / y.natAbs))=aS (x.fdiv y):=by
      refine dc ?_ fun hn=>?_
      ·rw[eq]
       have hgen:∀ Q:Nat,(x=0→Q=0)→(x.sign*y.sign*(Q:Int)).natAbs=Q:=by
        intro Q h0;rcases cG x with ⟨e,h1⟩ | ⟨e,h1⟩ | ⟨e,h1⟩<;>rcases cG y with ⟨e',h3⟩ | ⟨e',h3⟩ | ⟨e',h3⟩<;>rw[e,e']<;>first | omega | (rw[h0 h1];rfl)
       exact hgen _ fun h0=>by rw[h0];exact Nat.zero_div _
      ·rw[eq,hp,YS,YS,YS,YX,YX,YW (show (0:Int)<((x.natAbs / y.natAbs:Nat):Int) from Int.natCast_pos.2 (YZ hn)),YI]
     have hs2:fg x.sign (dg (x.natAbs % y.natAbs))=aS (x.fmod y):=by
      refine dc ?_ fun hn=>?_
      ·rw[er]
       have hgen:∀ Q:Nat,(x=0→Q=0)→(x.sign*(Q:Int)).natAbs=Q:=by
        intro Q h0;rcases cG x with ⟨e,h1⟩ | ⟨e,h1⟩ | ⟨e,h1⟩<;>rw[e]<;>first | omega | (rw[h0 h1];rfl)
       exact hgen _ fun h0=>by rw[h0];exact YJ _
      ·rw[er,YS,YX,YW (show (0:Int)<((x.natAbs % y.natAbs:Nat):Int) from Int.natCast_pos.2 (YZ hn)),YI]
     rcases hlow' with ⟨hlow1,hlow2⟩ | hlow1
     ·simp only[go_sem,go_sem_proc,YP,ao,iL,gD,gC,aO,hr,hr2,hl1,hl2,hy0',hw,hdiv,hlow1,hlow2,hla,hlb,hs1,hs2,aa,YY,bH,dm,cY]
      repeat' (first|refine qS ?_ ?_|fail)<;>intro h<;>simp only[h,go_sem,go_sem_proc,YP,ao,iL,gD,gC,aO,hr,hr2,hl1,hl2,hy0',hw,hdiv,hlow1,hlow2,hla,hlb,hs1,hs2,aa,YY,bH,dm,cY]
     ·simp only[go_sem,go_sem_proc,YP,ao,iL,gD,gC,aO,hr,hr2,hl1,hl2,hy0',hw,hdiv,hlow1,hla,hlb,hs1,hs2,aa,YY,bH,dm,cY]
      repeat' (first|refine qS ?_ ?_|fail)<;>intro h<;>simp only[h,go_sem,go_sem_proc,YP,ao,iL,gD,gC,aO,hr,hr2,hl1,hl2,hy0',hw,hdiv,hlow1,hla,hlb,hs1,hs2,aa,YY,bH,dm,cY]
  ·have hr2:aK (s2,l2)=false:=by simpa using hr2
   have hm:jv (s,l) (s2,l2)=((0,[]),(0,[]),1):=by unfold jv;rw[hr2,Y0];rfl
   rw[hm];simp only[go_sem,go_sem_proc,YP,ao,iL,gD,gC,aO,hr,hr2,hl1,hl2,bH,dm,YQ]
   repeat' (first|refine qS ?_ ?_|fail)<;>intro h<;>simp only[h,go_sem,go_sem_proc,YP,ao,iL,gD,gC,aO,hr,hr2,hl1,hl2,bH,dm,YQ]
 ·have hr:aK (s,l)=false:=by simpa using hr
  have hm:jv (s,l) (s2,l2)=((0,[]),(0,[]),1):=by unfold jv;rw[hr,Y1];rfl
  rw[hm];simp only[go_sem,go_sem_proc,YP,ao,iL,gD,gC,aO,hr,hl1,hl2,bH,dm,YQ]
  repeat' (first|refine qS ?_ ?_|fail)<;>intro h<;>simp only[h,go_sem,go_sem_proc,YP,ao,iL,gD,gC,aO,hr,hl1,hl2,bH,dm,YQ]
def ct (n:Int):Prop:=-9223372036854775808≤n∧n≤9223372036854775807
theorem ME {n:Nat} (h:n≤9223372036854775808):n<LIM:=by
 unfold LIM;refine Nat.lt_of_lt_of_le (m:=1048576^4) ?_ (Nat.pow_le_pow_right (by omega) (by omega));omega
theorem jI {n:Int} (h:ct n):n.natAbs<LIM:=ME (by unfold ct at h;omega)
theorem rM (n:Int) (h1:-18446744073709551616≤n) (h2:n<0):IntKind.u64.wrap n=n+18446744073709551616:=by
 unfold IntKind.wrap;simp [IntKind.bits,IntKind.signed];omega
noncomputable def zx:List Data→Option PRes:=FF (α:=Int) (fun (n:Int)=>([.int .i64 n]:List Data)) (fun (n:Int)=>aH (ct n) (.same (.agg (bH (aS n)))))
theorem BP:∀ a b:Int,(fun (n:Int)=>([.int .i64 n]:List Data)) a=(fun (n:Int)=>([.int .i64 n]:List Data)) b→a=b:=by
  intro n1 n2 h;simp only[List.cons.injEq,Data.int.injEq,Data.agg.injEq,Data.sl.injEq,Data.bool.injEq,Data.str.injEq,Data.ptr.injEq,Data.tup.injEq,Prod.mk.injEq,true_and,and_true] at h ⊢
  first | exact h | simpa [Y2,and_assoc] using h | grind
@[go_sem] theorem PC (n:Int) (hc:ct n):zx [.int .i64 n]=some (.same (.agg (bH (aS n)))):=(aY BP n).trans (al hc _)
theorem NC (T:Tab) (aO:T bE=mkE jU) (n:Int) (hc:ct n) :
  wp T mf_big_Of.body (bF mf_big_Of.res (.same (.agg (bH (aS n))))) ⟨ax [.dat (.int .i64 n)],emp⟩:=by
 refine ap ?_;simp only[mf_big_Of];have hc':=hc;unfold ct at hc';obtain⟨hn1,hn2⟩:=hc';have hs:∀ s:Int,(n≠0→s=n.sign)→fg s (dg n.natAbs)=aS n:=fun s h=>dc rfl fun hne=>h (by omega)
 have hlen:(dg n.natAbs).length≤60:=dg_len.2 (jI hc);rcases Y3 (n<0) with hneg | hpos
 ·have hw:=rM n (by omega) hneg
  have hw2:IntKind.u64.wrap (0-(n+18446744073709551616))=(n.natAbs:Int):=by
   rw[rM _ (by omega) (by omega)];omega
  simp only[go_sem,go_sem_proc,YP,aO,hneg,hw,hw2,decide_true];refine ae [2,3] [150002] (fun ((u,g,l):Nat × Nat × List Int) tm mem=>u≤9223372036854775808∧dg n.natAbs=l++dg u∧tm 4 = .dat (.int .u64 u)∧tm 5 = .ref 150021 g 1 0 l.length∧mem 150021=some (g,aC aa l)) (fun (u,_)=>u) (n.natAbs,0,[]) (by refine⟨by omega,rfl,?_,rfl,rfl⟩;rfl) ?_;intro vs ms hvs hms;simp only[go_sem,go_sem_proc,YP,aO] at hvs hms;subst hvs hms;rintro⟨u,g,l⟩ tm mem hk hm ⟨hu,hd,h4,h5,hm21⟩;simp only[go_sem,go_sem_proc,YP,aO,List.cons.injEq] at hk hm;obtain⟨h2,h3⟩:=hk;rcases Yy u with h0 | hup
  ·subst h0
   rw[gj,Y4] at hd;rw[hd] at hs hlen;have hlen':l.length≤1000000:=by omega
   have hs':=hs (-1) (fun _=>by exact (Y5 hneg).symm);simp only[go_sem,go_sem_proc,YP,aO,h2,h3,h4,h5,hm,hm21,hs',hlen',bH,Y6,Y7,YY,show ¬ ((0:Int)>0) by omega,decide_false,cp bw,Y8]
   repeat' (first|refine qS ?_ ?_|fail)<;>intro h<;>simp only[h,go_sem,go_sem_proc,YP,aO,h2,h3,h4,h5,hm,hm21,hs',hlen',bH,Y6,Y7,YY,show ¬ ((0:Int)>0) by omega,decide_false,cp bw,Y8]
  ·have hul:l.length≤60:=by
    have:=congrArg Y9 hd;rw[Zd] at this;omega
   have hgt:decide ((u:Int)>0)=true:=decide_eq_true (by omega);have hap:∀ a:Int,ln 150021 g 1 l.length 8 1 [.dat (.int .i64 a)] (some (g,aC aa l))=_:=fun a=>dl bw ik 150021 g 8 l a rfl (by omega) (by omega)
   have hand:=wT u ⟨by omega,by omega⟩
   have hcv:IntKind.i64.wrap ((u:Int) % 1048576)=(u:Int) % 1048576:=an _ (by omega) (by omega);simp only[go_sem,go_sem_proc,YP,aO,h2,h3,h4,h5,hm,hm21,hgt,hap,hand,hcv,fdivm,show ((20:Int)<0)=False from by simp,if_false,YY,List.cons.injEq]
   repeat' (first|refine qS ?_ ?_|fail)<;>intro h<;>simp only[h,go_sem,go_sem_proc,YP,aO,h2,h3,h4,h5,hm,hm21,hgt,hap,hand,hcv,fdivm,show ((20:Int)<0)=False from by simp,if_false,YY,List.cons.injEq]
   refine⟨(u / 1048576,g+1,l++[(u:Int) % 1048576]),by dsimp only;omega,by dsimp only;omega,by dsimp only;rw[Zg,hd,jX hup];rfl,by first | rfl | (dsimp only;rw[ko _ ⟨by omega,by omega⟩];rfl),by simp,by simp [go_sem]⟩
 ·have hw:IntKind.u64.wrap n=(n.natAbs:Int):=by rw[ko _ ⟨by omega,by omega⟩];omega
  simp only[go_sem,go_sem_proc,YP,aO,hpos,hw,decide_false];refine ae [2,3] [150002] (fun ((u,g,l):Nat × Nat × List Int) tm mem=>u≤9223372036854775808∧dg n.natAbs=l++dg u∧tm 4 = .dat (.int .u64 u)∧tm 5 = .ref 150021 g 1 0 l.length∧mem 150021=some (g,aC aa l)) (fun (u,_)=>u) (n.natAbs,0,[]) (by refine⟨by omega,rfl,?_,rfl,rfl⟩;rfl) ?_;intro vs ms hvs hms;simp only[go_sem,go_sem_proc,YP,aO] at hvs hms;subst hvs hms;rintro⟨u,g,l⟩ tm mem hk hm ⟨hu,hd,h4,h5,hm21⟩;simp only[go_sem,go_sem_proc,YP,aO,List.cons.injEq] at hk hm;obtain⟨h2,h3⟩:=hk;rcases Yy u with h0 | hup
  ·subst h0
   rw[gj,Y4] at hd;rw[hd] at hs hlen;have hlen':l.length≤1000000:=by omega
   have hs':=hs 1 (fun _=>by exact (YW (by omega)).symm);simp only[go_sem,go_sem_proc,YP,aO,h2,h3,h4,h5,hm,hm21,hs',hlen',bH,Y6,Y7,YY,show ¬ ((0:Int)>0) by omega,decide_false,cp bw,Y8]
   repeat' (first|refine qS ?_ ?_|fail)<;>intro h<;>simp only[h,go_sem,go_sem_proc,YP,aO,h2,h3,h4,h5,hm,hm21,hs',hlen',bH,Y6,Y7,YY,show ¬ ((0:Int)>0) by omega,decide_false,cp bw,Y8]
  ·have hul:l.length≤60:=by
    have:=congrArg Y9 hd;rw[Zd] at this;omega
   have hgt:decide ((u:Int)>0)=true:=decide_eq_true (by omega);have hap:∀ a:Int,ln 150021 g 1 l.length 8 1 [.dat (.int .i64 a)] (some (g,aC aa l))=_:=fun a=>dl bw ik 150021 g 8 l a rfl (by omega) (by omega)
   have hand:=wT u ⟨by omega,by omega⟩
   have hcv:IntKind.i64.wrap ((u:Int) % 1048576)=(u:Int) % 1048576:=an _ (by omega) (by omega);simp only[go_sem,go_sem_proc,YP,aO,h2,h3,h4,h5,hm,hm21,hgt,hap,hand,hcv,fdivm,show ((20:Int)<0)=False from by simp,if_false,YY,List.cons.injEq]
   repeat' (first|refine qS ?_ ?_|fail)<;>intro h<;>simp only[h,go_sem,go_sem_proc,YP,aO,h2,h3,h4,h5,hm,hm21,hgt,hap,hand,hcv,fdivm,show ((20:Int)<0)=False from by simp,if_false,YY,List.cons.injEq]
   refine⟨(u / 1048576,g+1,l++[(u:Int) % 1048576]),by dsimp only;omega,by dsimp only;omega,by dsimp only;rw[Zg,hd,jX hup];rfl,by first | rfl | (dsimp only;rw[ko _ ⟨by omega,by omega⟩];rfl),by simp,by simp [go_sem]⟩
theorem zw (k:IntKind) (a b:Int):bits .or k a b=bits .or k b a:=by
 simp only[bits,BitVec.or_comm]
theorem Pt (u d:Int) (i:Nat) (hi:(2:Int)^i≤1152921504606846976) (hu:0≤u∧u<2^i) (hd:0≤d) (h:d*2^i<18446744073709551616):bits .or .u64 u (d*2^i)=u+d*2^i:=by
 rw[zw,Int.add_comm];have h0:0≤d*2^i:=Zj hd (by exact Zm (Zr (by omega)));refine bits_join .u64 64 (by decide) (fun n h1 h2=>ko n ⟨h1,by omega⟩) i _ _ h0 (Int.mul_emod_left _ _) (by omega) hu.1 hu.2 (by omega)
instance (n:Int):Decidable (ct n):=by unfold ct;exact inferInstance
def qe (a:Raw):Int × Bool:=if aK a=true∧ct (gV a) then (gV a,true) else (0,false)
noncomputable def tB:List Data→Option PRes:=FF (α:=Int × (List Int)) (fun (s,l)=>([.agg [.int .i64 s,.sl (l.map aa)]]:List Data)) (fun (s,l)=>aH (l.length≤1000000) (.same (.tup [.int .i64 (qe (s,l)).1,.bool (qe (s,l)).2])))
theorem y6:∀ a b:Int × (List Int),(fun (s,l)=>([.agg [.int .i64 s,.sl (l.map aa)]]:List Data)) a=(fun (s,l)=>([.agg [.int .i64 s,.sl (l.map aa)]]:List Data)) b→a=b:=by
  rintro⟨s1,l1⟩ ⟨s2,l2⟩ h;simp only[List.cons.injEq,Data.agg.injEq,Data.int.injEq,Data.sl.injEq] at h;exact YO h.1.1.2 (af aj _ _ h.1.2.1)
@[go_sem] theorem Of (s:Int) (l:List Int) (hc:l.length≤1000000):tB [.agg [.int .i64 s,.sl (l.map aa)]]=some (.same (.tup [.int .i64 (qe (s,l)).1,.bool (qe (s,l)).2])):=(aY y6 (s,l)).trans (al hc _)
theorem Ii (T:Tab) (ao:T ba=mkE ei) (s:Int) (l:List Int) (hc:l.length≤1000000) :
  wp T mf_big_Int.body (bF mf_big_Int.res (.same (.tup [.int .i64 (qe (s,l)).1,.bool (qe (s,l)).2]))) ⟨ax [.dat (.agg [.int .i64 s,.sl (l.map aa)])],emp⟩:=by
 refine ap ?_;simp only[mf_big_Int]
 by_cases hr:aK (s,l)=true
 ·obtain⟨z,hz,e⟩:=(bn _).1 hr
  cases e
  have hi:qe (z.sign,dg z.natAbs)=if ct z then (z,true) else (0,false):=by
   unfold qe;rw[hr,show gV (z.sign,dg z.natAbs)=z from aU z];simp
  rw[hi];clear hi;have hs:=cG z
  by_cases h4:(dg z.natAbs).length≤4
  ·have h4':decide (((dg z.natAbs).length:Int)>4)=false:=decide_eq_false (by omega)
   have hvl:=gh z.natAbs;have hD:=eI z.natAbs;generalize dg z.natAbs=l at *;simp only[go_sem,go_sem_proc,YP,ao,hr,hc,h4',YY,aa];refine ae [1,17,18] [159001] (fun ((i,u):Nat × Int) tm mem=>i≤l.length∧u=vl (l.take i)∧u<18446744073709551616∧tm 4 = .dat (.int .u64 u)∧tm 19 = .dat (.int .i64 i)) (fun (i,_)=>l.length-i) (0,0) (by refine⟨by omega,rfl,by omega,rfl,rfl⟩) ?_;intro vs ms hvs hms;simp only[go_sem,go_sem_proc,YP,ao] at hvs hms;subst hvs hms;rintro⟨i,u⟩ tm mem hk hm ⟨hi,hu,hu64,ht4,ht19⟩;simp only[go_sem,go_sem_proc,YP,ao,List.cons.injEq] at hk hm;obtain⟨h1,h17,h18⟩:=hk;have hDt:isD (l.take i):=fun d hd=>hD d (List.mem_of_mem_take hd)
   have hu0:0≤u:=by rw[hu];exact cU hDt
   rcases Y3 (i<l.length) with hlt | hge
   ·have hx:=List.getElem?_eq_getElem hlt
    have hd:=hD l[i] (List.getElem_mem hlt);have hstep:=bc l i hlt;have hub:=qh hDt;rw[List.length_take,Nat.min_eq_left (YT hlt),←hu] at hub;rw[←hu] at hstep;generalize l[i]=d at *;have hltd:decide ((i:Int)<(l.length:Int))=true:=decide_eq_true (by omega);have hwd:IntKind.u64.wrap d=d:=ko d ⟨hd.1,by omega⟩
    have hw20:IntKind.i64.wrap (20*(i:Int))=((20*i:Nat):Int):=by rw[an _ (by omega) (by omega)];omega
    have hmin:min (20*i) 64=20*i:=by omega
    have hn0:(((20*i:Nat):Int)<0)=False:=eq_false (by omega);have hpow:(1048576:Int)^i=2^(20*i):=by rw[Int.pow_mul];rfl
    rw[hpow] at hub hstep
    have hpl:(2:Int)^(20*i)≤1152921504606846976:=by
     obtain rfl | rfl | rfl | rfl:i=0∨i=1∨i=2∨i=3:=by omega
     all_goals decide
    by_cases hbig:i=3∧d>8
    ·obtain⟨rfl,hd8⟩:=hbig
     have hd8':decide (d>8)=true:=decide_eq_true hd8;have h33:(((3:Nat):Int)==3)=true:=rfl
     have hni:¬ ct z:=by
      have htd:=ja l 4;rw[hvl] at htd;have:0≤vl (l.drop 4):=cU fun d hd=>hD d (List.mem_of_mem_drop hd)
      have h5:=Zj (show (0:Int)≤1048576^(min 4 l.length) from Zm (Zr (by omega))) this;unfold ct;simp only[Zw,Nat.reduceAdd,Zy] at hstep;rw[hstep] at htd;omega
     rw[if_neg hni];simp only[go_sem,go_sem_proc,YP,ao,h1,h17,h18,ht4,ht19,hm,hx,hd.1,hd.2,hltd,hwd,hd8',h33,YY,Zz,List.cons.injEq,aa]
     repeat' (first|refine qS ?_ ?_|fail)<;>intro h<;>simp only[h,go_sem,go_sem_proc,YP,ao,h1,h17,h18,ht4,ht19,hm,hx,hd.1,hd.2,hltd,hwd,hd8',h33,YY,Zz,List.cons.injEq,aa]
    ·have hdb:d*2^(20*i)<18446744073709551616:=by
      obtain rfl | rfl | rfl | rfl:i=0∨i=1∨i=2∨i=3:=by omega
      all_goals simp
      all_goals omega
     have hor:=Pt u d (20*i) hpl ⟨hu0,hub⟩ hd.1 hdb;have hdm:0≤d*2^(20*i):=Zj hd.1 (Zm (Zr (by omega)));have hwm:IntKind.u64.wrap (d*2^(20*i))=d*2^(20*i):=ko _ ⟨hdm,hdb⟩
     have hsum:u+d*2^(20*i)<18446744073709551616:=by
      clear hor hwm hdm hw20 hn0 hpow hpl hstep;obtain rfl | rfl | rfl | rfl:i=0∨i=1∨i=2∨i=3:=by omega
      all_goals simp only[Zw,Zy] at hub hdb ⊢
      all_goals omega
     by_cases h3:((i:Int)==3)=true
     ·have hd8:decide (d>8)=false:=decide_eq_false fun h=>hbig ⟨by simp at h3;omega,h⟩
      simp only[go_sem,go_sem_proc,YP,ao,h1,h17,h18,ht4,ht19,hm,hx,hd.1,hd.2,hltd,hwd,h3,hd8,hw20,hn0,if_false,ZA,hmin,hwm,hor,YY,Zz,List.cons.injEq,aa]
      repeat' (first|refine qS ?_ ?_|fail)<;>intro h<;>simp only[h,go_sem,go_sem_proc,YP,ao,h1,h17,h18,ht4,ht19,hm,hx,hd.1,hd.2,hltd,hwd,h3,hd8,hw20,hn0,if_false,ZA,hmin,hwm,hor,YY,Zz,List.cons.injEq,aa]
      exact⟨(i+1,u+d*2^(20*i)),by dsimp only;omega,by dsimp only;omega,by dsimp only;rw[hstep,ZB],hsum,rfl,by rw[an _ (by omega) (by omega)];rfl⟩
     ·have h3:((i:Int)==3)=false:=by simpa using h3
      simp only[go_sem,go_sem_proc,YP,ao,h1,h17,h18,ht4,ht19,hm,hx,hd.1,hd.2,hltd,hwd,h3,hw20,hn0,if_false,ZA,hmin,hwm,hor,YY,Zz,List.cons.injEq,aa]
      repeat' (first|refine qS ?_ ?_|fail)<;>intro h<;>simp only[h,go_sem,go_sem_proc,YP,ao,h1,h17,h18,ht4,ht19,hm,hx,hd.1,hd.2,hltd,hwd,h3,hw20,hn0,if_false,ZA,hmin,hwm,hor,YY,Zz,List.cons.injEq,aa]
      exact⟨(i+1,u+d*2^(20*i)),by dsimp only;omega,by dsimp only;omega,by dsimp only;rw[hstep,ZB],hsum,rfl,by rw[an _ (by omega) (by omega)];rfl⟩
   ·have hltd:decide ((i:Int)<(l.length:Int))=false:=decide_eq_false (by omega)
    have hil:i=l.length:=by omega
    rw[hil,Y8,hvl] at hu;rcases hs with ⟨hs,hz0⟩ | ⟨hs,hz0⟩ | ⟨hs,hz0⟩
    ·by_cases hr64:u<9223372036854775808
     ·rw[if_pos (by unfold ct;omega)]
      have hw:IntKind.i64.wrap u=z:=by rw[an u (by omega) (by omega)];omega
      simp only[go_sem,go_sem_proc,YP,ao,h1,h17,h18,ht4,ht19,hm,hltd,hs,hr64,show decide ((1:Int)<0)=false from rfl,show decide ((1:Int)≥0)=true from rfl,show decide ((-1:Int)<0)=true from rfl,show decide ((-1:Int)≥0)=false from rfl,hw,decide_true,decide_false,YY]
      repeat' (first|refine qS ?_ ?_|fail)<;>intro h<;>simp only[h,go_sem,go_sem_proc,YP,ao,h1,h17,h18,ht4,ht19,hm,hltd,hs,hr64,show decide ((1:Int)<0)=false from rfl,show decide ((1:Int)≥0)=true from rfl,show decide ((-1:Int)<0)=true from rfl,show decide ((-1:Int)≥0)=false from rfl,hw,decide_true,decide_false,YY]
     ·rw[if_neg (by unfold ct;omega)]
      simp only[go_sem,go_sem_proc,YP,ao,h1,h17,h18,ht4,ht19,hm,hltd,hs,hr64,show decide ((1:Int)<0)=false from rfl,show decide ((1:Int)≥0)=true from rfl,show decide ((-1:Int)<0)=true from rfl,show decide ((-1:Int)≥0)=false from rfl,decide_true,decide_false,YY]
      repeat' (first|refine qS ?_ ?_|fail)<;>intro h<;>simp only[h,go_sem,go_sem_proc,YP,ao,h1,h17,h18,ht4,ht19,hm,hltd,hs,hr64,show decide ((1:Int)<0)=false from rfl,show decide ((1:Int)≥0)=true from rfl,show decide ((-1:Int)<0)=true from rfl,show decide ((-1:Int)≥0)=false from rfl,decide_true,decide_false,YY]
    ·rw[if_pos (by unfold ct;omega)]
     have hu0':u=0:=by omega
     subst hz0;subst hu0';simp only[go_sem,go_sem_proc,YP,ao,h1,h17,h18,ht4,ht19,hm,hltd,hs,show decide ((0:Int)<0)=false from rfl,show decide ((0:Int)≥0)=true from rfl,show decide ((0:Int)<9223372036854775808)=true from rfl,show IntKind.i64.wrap 0=0 from rfl,show (0:Int).sign=0 from rfl,decide_true,decide_false,YY]
     repeat' (first|refine qS ?_ ?_|fail)<;>intro h<;>simp only[h,go_sem,go_sem_proc,YP,ao,h1,h17,h18,ht4,ht19,hm,hltd,hs,show decide ((0:Int)<0)=false from rfl,show decide ((0:Int)≥0)=true from rfl,show decide ((0:Int)<9223372036854775808)=true from rfl,show IntKind.i64.wrap 0=0 from rfl,show (0:Int).sign=0 from rfl,decide_true,decide_false,YY]
    ·by_cases hr64:u≤9223372036854775808
     ·rw[if_pos (by unfold ct;omega)]
      have hw:=rM (0-u) (by omega) (by omega)
      have hw2:IntKind.i64.wrap (0-u+18446744073709551616)=z:=by
       simp [IntKind.wrap,IntKind.bits,IntKind.signed];omega
      simp only[go_sem,go_sem_proc,YP,ao,h1,h17,h18,ht4,ht19,hm,hltd,hs,hr64,show decide ((1:Int)<0)=false from rfl,show decide ((1:Int)≥0)=true from rfl,show decide ((-1:Int)<0)=true from rfl,show decide ((-1:Int)≥0)=false from rfl,hw,hw2,decide_true,decide_false,YY]
      repeat' (first|refine qS ?_ ?_|fail)<;>intro h<;>simp only[h,go_sem,go_sem_proc,YP,ao,h1,h17,h18,ht4,ht19,hm,hltd,hs,hr64,show decide ((1:Int)<0)=false from rfl,show decide ((1:Int)≥0)=true from rfl,show decide ((-1:Int)<0)=true from rfl,show decide ((-1:Int)≥0)=false from rfl,hw,hw2,decide_true,decide_false,YY]
     ·rw[if_neg (by unfold ct;omega)]
      simp only[go_sem,go_sem_proc,YP,ao,h1,h17,h18,ht4,ht19,hm,hltd,hs,hr64,show decide ((1:Int)<0)=false from rfl,show decide ((1:Int)≥0)=true from rfl,show decide ((-1:Int)<0)=true from rfl,show decide ((-1:Int)≥0)=false from rfl,decide_true,decide_false,YY]
      repeat' (first|refine qS ?_ ?_|fail)<;>intro h<;>simp only[h,go_sem,go_sem_proc,YP,ao,h1,h17,h18,ht4,ht19,hm,hltd,hs,hr64,show decide ((1:Int)<0)=false from rfl,show decide ((1:Int)≥0)=true from rfl,show decide ((-1:Int)<0)=true from rfl,show decide ((-1:Int)≥0)=false from rfl,decide_true,decide_false,YY]
  ·have h4':decide (((dg z.natAbs).length:Int)>4)=true:=decide_eq_true (by omega)
   have hn:¬ ct z:=by
    intro h;unfold ct at h;refine h4 (dg_len.2 ?_);omega
   rw[if_neg hn];simp only[go_sem,go_sem_proc,YP,ao,hr,hc,h4',YY]
   repeat' (first|refine qS ?_ ?_|fail)<;>intro h<;>simp only[h,go_sem,go_sem_proc,YP,ao,hr,hc,h4',YY]
 ·have hr:aK (s,l)=false:=by simpa using hr
  have hi:qe (s,l)=(0,false):=by unfold qe;rw[if_neg];rw[hr];simp
  rw[hi];simp only[go_sem,go_sem_proc,YP,ao,hr,hc]
  repeat' (first|refine qS ?_ ?_|fail)<;>intro h<;>simp only[h,go_sem,go_sem_proc,YP,ao,hr,hc]
def mf_frac_Right:MFunc :=
 { n:=35,np:=1,res:=[.t 2],body :=
 (.seq (.ops [
 Zk 1 116001 0,Zb 2 false])
 (.seq (.seq (.ops [
 Zf 5 0 1,Zu 6 2 5,⟨some 7,none,.call ba [(.t 6)]⟩,Zt 8 7,Zv 9 8,⟨some 10,some (9,false),.fad 2 (.t 1)⟩,⟨some 11,some (9,false),.load 2 true (.t 10)⟩,⟨some 12,some (9,false),.call ba [(.t 11)]⟩,⟨some 13,some (9,false),.un .not (.t 12)⟩,Zp 14 9 13,Zv 15 14,⟨some 16,some (15,false),.fad 2 (.t 1)⟩,⟨some 17,some (15,false),.fad 0 (.t 16)⟩,⟨some 18,some (15,false),.load 1 false (.t 17)⟩,⟨some 19,some (15,false),.bin .neq (.t 18) (.c (ZI 1))⟩,Zp 20 15 19])
 (.cond (.t 20)
 (.seq (.ops [
 Zb 2 false])
 .ret)
 .skip))
 (.seq (.ops [
 Zf 22 0 1,Zu 23 2 22,Zf 24 2 1,Zu 25 2 24,⟨some 26,none,.call kL [(.t 23),(.t 25)]⟩,Zv 21 26,Zx 27 0 21,Zx 28 1 21,⟨some 3,none,.alloc 116003 [(ZI 0),.nil]⟩,Zs 2 3 27,Zv 4 28])
 (.seq (.ops [
 Zv 29 4,Zc 30 .eql 29 0,Zv 31 30,⟨some 32,some (31,true),.load 2 true (.t 3)⟩,⟨some 33,some (31,true),.call ol [(.t 32)]⟩,Zq 34 31 33,Zv 2 34])
 .ret)))) }
def mf_frac_Add:MFunc :=
 { n:=46,np:=2,res:=[.cell 4 4 true,.t 5],body :=
 (.seq (.ops [
 Zk 2 119002 0,Zk 3 119003 1,⟨some 4,none,.alloc 119004 [(ZI 0),.nil,(ZI 0),.nil]⟩,Zi 5 0])
 (.seq (.seq (.ops [
 Zu 10 4 2,⟨some 11,none,.call aT [(.t 10)]⟩,Zt 12 11,Zv 13 12,⟨some 14,some (13,false),.load 4 true (.t 3)⟩,⟨some 15,some (13,false),.call aT [(.t 14)]⟩,⟨some 16,some (13,false),.un .not (.t 15)⟩,Zp 17 13 16])
 (.cond (.t 17)
 (.seq (.ops [
 ⟨some 18,none,.build [(ZI 0),.nil,(ZI 0),.nil] []⟩,Zs 4 4 18,Zi 5 1])
 .ret)
 .skip))
 (.seq (.ops [
 Zf 20 0 2,Zu 21 2 20,Zf 22 2 3,Zu 23 2 22,Zf 24 0 3,Zu 25 2 24,Zf 26 2 2,Zu 27 2 26,⟨some 28,none,.call nX [(.t 21),(.t 23),(.t 25),(.t 27)]⟩,Zv 19 28,Zx 29 0 19,Zx 30 1 19,⟨some 6,none,.alloc 119006 [(ZI 0),.nil]⟩,Zs 2 6 29,Zv 7 30])
 (.seq (.ops [
 Zf 32 2 2,Zu 33 2 32,Zf 34 2 3,Zu 35 2 34,⟨some 36,none,.call dS [(.t 33),(.t 35)]⟩,Zv 31 36,Zx 37 0 31,Zx 38 1 31,⟨some 8,none,.alloc 119008 [(ZI 0),.nil]⟩,Zs 2 8 37,Zv 9 38])
 (.seq (.ops [
 Zu 39 2 6,Zv 40 7,Zu 41 2 8,Zv 42 9,⟨some 43,none,.call dF [(.t 39),(.t 40),(.t 41),(.t 42)]⟩,Zx 44 0 43,Zx 45 1 43,Zs 4 4 44,Zv 5 45])
 .ret))))) }
def mf_frac_Of:MFunc :=
 { n:=13,np:=2,res:=[.cell 4 4 true,.t 5],body :=
 (.seq (.ops [
 ⟨some 4,none,.alloc 130004 [(ZI 0),.nil,(ZI 0),.nil]⟩,Zi 5 0])
 (.seq (.ops [
 Zv 6 0,⟨some 7,none,.call oO [(.t 6)]⟩,Zv 8 1,⟨some 9,none,.call oO [(.t 8)]⟩,⟨some 10,none,.call jO [(.t 7),(.t 9)]⟩,Zx 11 0 10,Zx 12 1 10,Zs 4 4 11,Zv 5 12])
 .ret)) }
def mf_frac_Sub:MFunc :=
 { n:=25,np:=2,res:=[.cell 4 4 true,.t 5],body :=
 (.seq (.ops [
 Zk 2 132002 0,Zk 3 132003 1,⟨some 4,none,.alloc 132004 [(ZI 0),.nil,(ZI 0),.nil]⟩,Zi 5 0])
 (.seq (.seq (.ops [
 Zu 6 4 2,⟨some 7,none,.call aT [(.t 6)]⟩,Zt 8 7,Zv 9 8,⟨some 10,some (9,false),.load 4 true (.t 3)⟩,⟨some 11,some (9,false),.call aT [(.t 10)]⟩,⟨some 12,some (9,false),.un .not (.t 11)⟩,Zp 13 9 12])
 (.cond (.t 13)
 (.seq (.ops [
 ⟨some 14,none,.build [(ZI 0),.nil,(ZI 0),.nil] []⟩,Zs 4 4 14,Zi 5 1])
 .ret)
 .skip))
 (.seq (.opsD [
 Zu 15 4 2,Zf 16 0 3,Zu 17 2 16,⟨some 18,none,.call jt [(.t 17)]⟩,Zf 19 2 3,Zu 20 2 19,⟨some 21,none,.build [(ZI 0),.nil,(ZI 0),.nil] [(0,2,(.t 18)),(2,2,(.t 20))]⟩,⟨some 22,none,.call cS [(.t 15),(.t 21)]⟩,Zx 23 0 22,Zx 24 1 22,Zs 4 4 23,Zv 5 24] [[],[],[],[],[],[],[],[],[],[],[],[]])
 .ret))) }
def mf_frac_Mul:MFunc :=
 { n:=42,np:=2,res:=[.cell 4 4 true,.t 5],body :=
 (.seq (.ops [
 Zk 2 134002 0,Zk 3 134003 1,⟨some 4,none,.alloc 134004 [(ZI 0),.nil,(ZI 0),.nil]⟩,Zi 5 0])
 (.seq (.seq (.ops [
 Zu 10 4 2,⟨some 11,none,.call aT [(.t 10)]⟩,Zt 12 11,Zv 13 12,⟨some 14,some (13,false),.load 4 true (.t 3)⟩,⟨some 15,some (13,false),.call aT [(.t 14)]⟩,⟨some 16,some (13,false),.un .not (.t 15)⟩,Zp 17 13 16])
 (.cond (.t 17)
 (.seq (.ops [
 ⟨some 18,none,.build [(ZI 0),.nil,(ZI 0),.nil] []⟩,Zs 4 4 18,Zi 5 1])
 .ret)
 .skip))
 (.seq (.ops [
 Zf 20 0 2,Zu 21 2 20,Zf 22 0 3,Zu 23 2 22,⟨some 24,none,.call dS [(.t 21),(.t 23)]⟩,Zv 19 24,Zx 25 0 19,Zx 26 1 19,⟨some 6,none,.alloc 134006 [(ZI 0),.nil]⟩,Zs 2 6 25,Zv 7 26])
 (.seq (.ops [
 Zf 28 2 2,Zu 29 2 28,Zf 30 2 3,Zu 31 2 30,⟨some 32,none,.call dS [(.t 29),(.t 31)]⟩,Zv 27 32,Zx 33 0 27,Zx 34 1 27,⟨some 8,none,.alloc 134008 [(ZI 0),.nil]⟩,Zs 2 8 33,Zv 9 34])
 (.seq (.ops [
 Zu 35 2 6,Zv 36 7,Zu 37 2 8,Zv 38 9,⟨some 39,none,.call dF [(.t 35),(.t 36),(.t 37),(.t 38)]⟩,Zx 40 0 39,Zx 41 1 39,Zs 4 4 40,Zv 5 41])
 .ret))))) }
def mf_frac_Compare:MFunc :=
 { n:=78,np:=2,res:=[.t 4],body :=
 (.seq (.ops [
 Zk 2 135002 0,Zk 3 135003 1,Zi 4 0])
 (.seq (.seq (.ops [
 Zu 17 4 2,⟨some 18,none,.call aT [(.t 17)]⟩,Zt 19 18,Zv 20 19,⟨some 21,some (20,false),.load 4 true (.t 3)⟩,⟨some 22,some (20,false),.call aT [(.t 21)]⟩,⟨some 23,some (20,false),.un .not (.t 22)⟩,Zp 24 20 23])
 (.cond (.t 24)
 (.seq (.ops [
 Zi 4 0])
 .ret)
 .skip))
 (.seq (.opsD [
 Zf 25 0 2,Zu 26 2 25,Zf 27 2 2,Zu 28 2 27,Zf 29 0 3,Zu 30 2 29,Zf 31 2 3,Zu 32 2 31,⟨some 5,none,.alloc 135005 [(ZI 0),.nil]⟩,⟨some 6,none,.alloc 135006 [(ZI 0),.nil]⟩,⟨some 7,none,.alloc 135007 [(ZI 0),.nil]⟩,⟨some 8,none,.alloc 135008 [(ZI 0),.nil]⟩,Zs 2 5 26,Zs 2 6 28,Zs 2 7 30,Zs 2 8 32] [[],[],[],[],[],[],[],[],[1,3,5,7],[1,3,5,7,8],[1,3,5,7,8,9],[1,3,5,7,8,9,10],[3,5,7],[5,7],[7],[]])
 (.seq (.ops [
 Zi 9 1])
 (.block 0
 (.loop
 (.seq (.block 1
 (.seq (.ops [
 Zu 36 2 5,Zu 37 2 6,⟨some 38,none,.call iB [(.t 36),(.t 37)]⟩,Zv 35 38,Zx 39 0 35,Zx 40 1 35,Zx 41 2 35,⟨some 10,none,.alloc 135010 [(ZI 0),.nil]⟩,⟨some 11,none,.alloc 135011 [(ZI 0),.nil]⟩,Zs 2 10 39,Zs 2 11 40,Zv 12 41])
 (.seq (.ops [
 Zu 43 2 7,Zu 44 2 8,⟨some 45,none,.call iB [(.t 43),(.t 44)]⟩,Zv 42 45,Zx 46 0 42,Zx 47 1 42,Zx 48 2 42,⟨some 13,none,.alloc 135013 [(ZI 0),.nil]⟩,⟨some 14,none,.alloc 135014 [(ZI 0),.nil]⟩,Zs 2 13 46,Zs 2 14 47,Zv 15 48])
 (.seq (.seq (.ops [
 Zu 49 2 10,Zu 50 2 13,⟨some 51,none,.call kW [(.t 49),(.t 50)]⟩,Zv 16 51])
 (.block 2
 (.seq (.ops [
 Zv 53 16,Zc 54 .neq 53 0,Zv 52 54])
 (.cond (.t 52)
 (.seq (.ops [
 Zv 55 9,Zv 56 16,Zo 57 .mul 55 56,Zv 4 57])
 .ret)
 (.seq (.ops [
 Zf 59 0 11,Zl 60 1 59,Zc 61 .eql 60 0,Zv 62 61,⟨some 63,some (62,false),.fad 0 (.t 14)⟩,⟨some 64,some (62,false),.load 1 false (.t 63)⟩,⟨some 65,some (62,false),.bin .eql (.t 64) (.c (ZI 0))⟩,Zp 66 62 65,Zv 58 66])
 (.cond (.t 58)
 (.seq (.ops [
 Zv 67 9,Zf 68 0 11,Zl 69 1 68,Zf 70 0 14,Zl 71 1 70,Zo 72 .sub 69 71,Zo 73 .mul 67 72,Zv 4 73])
 .ret)
 .skip))))))
 (.opsD [
 Zu 74 2 6,Zu 75 2 11,Zu 76 2 8,Zu 77 2 14,Zs 2 5 74,Zs 2 6 75,Zs 2 7 76,Zs 2 8 77] [[],[],[],[],[1,2,3],[2,3],[3],[]])))))
 (.ops [
 Zv 33 9,⟨some 34,none,.un .neg (.t 33)⟩,Zv 9 34])))))))) }
def mf_frac_one:MFunc :=
 { n:=15,np:=1,res:=[.t 2],body :=
 (.seq (.ops [
 Zk 1 138001 0,Zb 2 false])
 (.seq (.ops [
 Zu 6 2 1,⟨some 7,none,.call pq [(.t 6)]⟩,Zv 5 7,Zx 8 0 5,Zx 9 1 5,Zv 3 8,Zv 4 9])
 (.seq (.ops [
 Zv 10 4,Zv 11 10,⟨some 12,some (11,true),.mv (.t 3)⟩,⟨some 13,some (11,true),.bin .eql (.t 12) (.c (ZI 1))⟩,Zq 14 11 13,Zv 2 14])
 .ret))) }
def mf_frac_sum:MFunc :=
 { n:=38,np:=4,res:=[.cell 8 2 true,.t 9],body :=
 (.seq (.ops [
 Zk 4 139004 0,Zk 5 139005 1,Zk 6 139006 2,Zk 7 139007 3,⟨some 8,none,.alloc 139008 [(ZI 0),.nil]⟩,Zi 9 0])
 (.seq (.ops [
 Zu 14 2 4,Zu 15 2 5,⟨some 16,none,.call dS [(.t 14),(.t 15)]⟩,Zv 13 16,Zx 17 0 13,Zx 18 1 13,⟨some 10,none,.alloc 139010 [(ZI 0),.nil]⟩,Zs 2 10 17,Zv 11 18])
 (.seq (.seq (.ops [
 Zv 19 11,Zc 20 .neq 19 0])
 (.cond (.t 20)
 (.seq (.ops [
 ⟨some 21,none,.build [(ZI 0),.nil] []⟩,Zv 22 11,Zs 2 8 21,Zv 9 22])
 .ret)
 .skip))
 (.seq (.ops [
 Zu 24 2 6,Zu 25 2 7,⟨some 26,none,.call dS [(.t 24),(.t 25)]⟩,Zv 23 26,Zx 27 0 23,Zx 28 1 23,⟨some 12,none,.alloc 139012 [(ZI 0),.nil]⟩,Zs 2 12 27,Zv 11 28])
 (.seq (.seq (.ops [
 Zv 29 11,Zc 30 .neq 29 0])
 (.cond (.t 30)
 (.seq (.ops [
 ⟨some 31,none,.build [(ZI 0),.nil] []⟩,Zv 32 11,Zs 2 8 31,Zv 9 32])
 .ret)
 .skip))
 (.seq (.ops [
 Zu 33 2 10,Zu 34 2 12,⟨some 35,none,.call py [(.t 33),(.t 34)]⟩,Zx 36 0 35,Zx 37 1 35,Zs 2 8 36,Zv 9 37])
 .ret)))))) }
def mf_frac_quotient:MFunc :=
 { n:=22,np:=4,res:=[.cell 8 4 true,.t 9],body :=
 (.seq (.ops [
 Zk 4 141004 0,Zk 6 141006 2,⟨some 8,none,.alloc 141008 [(ZI 0),.nil,(ZI 0),.nil]⟩,Zi 9 0])
 (.seq (.seq (.ops [
 Zv 10 1,Zc 11 .neq 10 0,Zv 12 11,⟨some 13,some (12,false),.mv (.t 3)⟩,⟨some 14,some (12,false),.bin .neq (.t 13) (.c (ZI 0))⟩,Zp 15 12 14])
 (.cond (.t 15)
 (.seq (.ops [
 ⟨some 16,none,.build [(ZI 0),.nil,(ZI 0),.nil] []⟩,Zs 4 8 16,Zi 9 6])
 .ret)
 .skip))
 (.seq (.ops [
 Zu 17 2 4,Zu 18 2 6,⟨some 19,none,.call jO [(.t 17),(.t 18)]⟩,Zx 20 0 19,Zx 21 1 19,Zs 4 8 20,Zv 9 21])
 .ret))) }
def mf_frac_New:MFunc :=
 { n:=60,np:=2,res:=[.cell 4 4 true,.t 5],body :=
 (.seq (.ops [
 Zk 2 149002 0,Zk 3 149003 1,⟨some 4,none,.alloc 149004 [(ZI 0),.nil,(ZI 0),.nil]⟩,Zi 5 0])
 (.seq (.block 0
 (.seq (.ops [
 Zu 15 2 2,⟨some 16,none,.call ba [(.t 15)]⟩,Zt 17 16,Zv 18 17,⟨some 19,some (18,false),.load 2 true (.t 3)⟩,⟨some 20,some (18,false),.call ba [(.t 19)]⟩,⟨some 21,some (18,false),.un .not (.t 20)⟩,Zp 22 18 21,Zv 14 22])
 (.cond (.t 14)
 (.seq (.ops [
 ⟨some 23,none,.build [(ZI 0),.nil,(ZI 0),.nil] []⟩,Zs 4 4 23,Zi 5 1])
 .ret)
 (.seq (.ops [
 Zf 25 0 3,Zl 26 1 25,Zc 27 .eql 26 0,Zv 24 27])
 (.cond (.t 24)
 (.seq (.ops [
 ⟨some 28,none,.build [(ZI 0),.nil,(ZI 0),.nil] []⟩,Zs 4 4 28,Zi 5 15])
 .ret)
 (.seq (.ops [
 Zf 30 0 3,Zl 31 1 30,Zc 32 .lss 31 0,Zv 29 32])
 (.cond (.t 29)
 (.opsD [
 Zu 33 2 2,⟨some 34,none,.call jt [(.t 33)]⟩,Zu 35 2 3,⟨some 36,none,.call jt [(.t 35)]⟩,Zs 2 2 34,Zs 2 3 36] [[],[],[],[],[],[]])
 .skip)))))))
 (.seq (.ops [
 Zu 38 2 2,Zu 39 2 3,⟨some 40,none,.call kL [(.t 38),(.t 39)]⟩,Zv 37 40,Zx 41 0 37,Zx 42 1 37,⟨some 6,none,.alloc 149006 [(ZI 0),.nil]⟩,Zs 2 6 41,Zv 7 42])
 (.seq (.ops [
 Zu 44 2 2,Zu 45 2 6,⟨some 46,none,.call iB [(.t 44),(.t 45)]⟩,Zv 43 46,Zx 47 0 43,Zx 48 1 43,Zx 49 2 43,⟨some 8,none,.alloc 149008 [(ZI 0),.nil]⟩,⟨some 9,none,.alloc 149009 [(ZI 0),.nil]⟩,Zs 2 8 47,Zs 2 9 48,Zv 10 49])
 (.seq (.ops [
 Zu 51 2 3,Zu 52 2 6,⟨some 53,none,.call iB [(.t 51),(.t 52)]⟩,Zv 50 53,Zx 54 0 50,Zx 55 1 50,Zx 56 2 50,⟨some 11,none,.alloc 149011 [(ZI 0),.nil]⟩,⟨some 12,none,.alloc 149012 [(ZI 0),.nil]⟩,Zs 2 11 54,Zs 2 12 55,Zv 13 56])
 (.seq (.ops [
 Zu 57 2 8,Zu 58 2 11,⟨some 59,none,.build [(ZI 0),.nil,(ZI 0),.nil] [(0,2,(.t 57)),(2,2,(.t 58))]⟩,Zs 4 4 59,Zi 5 0])
 .ret)))))) }
def mf_frac_Div:MFunc :=
 { n:=49,np:=2,res:=[.cell 4 4 true,.t 5],body :=
 (.seq (.ops [
 Zk 2 169002 0,Zk 3 169003 1,⟨some 4,none,.alloc 169004 [(ZI 0),.nil,(ZI 0),.nil]⟩,Zi 5 0])
 (.seq (.block 0
 (.seq (.ops [
 Zu 11 4 2,⟨some 12,none,.call aT [(.t 11)]⟩,Zt 13 12,Zv 14 13,⟨some 15,some (14,false),.load 4 true (.t 3)⟩,⟨some 16,some (14,false),.call aT [(.t 15)]⟩,⟨some 17,some (14,false),.un .not (.t 16)⟩,Zp 18 14 17,Zv 10 18])
 (.cond (.t 10)
 (.seq (.ops [
 ⟨some 19,none,.build [(ZI 0),.nil,(ZI 0),.nil] []⟩,Zs 4 4 19,Zi 5 1])
 .ret)
 (.seq (.ops [
 Zf 21 0 3,Zf 22 0 21,Zl 23 1 22,Zc 24 .eql 23 0,Zv 20 24])
 (.cond (.t 20)
 (.seq (.ops [
 ⟨some 25,none,.build [(ZI 0),.nil,(ZI 0),.nil] []⟩,Zs 4 4 25,Zi 5 15])
 .ret)
 .skip)))))
 (.seq (.ops [
 Zf 27 0 2,Zu 28 2 27,Zf 29 2 3,Zu 30 2 29,⟨some 31,none,.call dS [(.t 28),(.t 30)]⟩,Zv 26 31,Zx 32 0 26,Zx 33 1 26,⟨some 6,none,.alloc 169006 [(ZI 0),.nil]⟩,Zs 2 6 32,Zv 7 33])
 (.seq (.ops [
 Zf 35 2 2,Zu 36 2 35,Zf 37 0 3,Zu 38 2 37,⟨some 39,none,.call dS [(.t 36),(.t 38)]⟩,Zv 34 39,Zx 40 0 34,Zx 41 1 34,⟨some 8,none,.alloc 169008 [(ZI 0),.nil]⟩,Zs 2 8 40,Zv 9 41])
 (.seq (.ops [
 Zu 42 2 6,Zv 43 7,Zu 44 2 8,Zv 45 9,⟨some 46,none,.call dF [(.t 42),(.t 43),(.t 44),(.t 45)]⟩,Zx 47 0 46,Zx 48 1 46,Zs 4 4 47,Zv 5 48])
 .ret))))) }
abbrev aG:=Raw × Raw
def ad (f:aG):List Data:=[.int .i64 f.1.1,.sl (f.1.2.map aa),.int .i64 f.2.1,.sl (f.2.2.map aa)]
def bD (x:aG × Int):Data:=.tup [.agg (ad x.1),.int .i64 x.2]
def ah (x:Rat):aG:=(aS x.num,aS x.den)
def cr (x:Rat):Prop:=x.num.natAbs<LIM∧x.den<LIM
def cj:aG:=((0,[]),(0,[]))
def bf (f:aG):Bool:=aK f.1&&(aK f.2&&(f.2.1==1&&(ZC (gV f.1).natAbs (gV f.2).natAbs==1)))
def pH (f:aG):Rat:=ZD (gV f.1) (gV f.2)
theorem kJ (x:Rat):pH (ah x)=x:=by
 unfold pH ah;rw[aU,aU,ZE]
theorem uk {x y:Rat} (h:ah x=ah y):x=y:=by rw[←kJ x,h,kJ]
theorem den_pos (x:Rat):0<(x.den:Int):=Int.natCast_pos.2 x.den_pos
theorem IR {n:Int} (h:0<n):(aS n).1=1:=YW h
theorem kO (f:aG):bf f=true↔∃ x,cr x∧f=ah x:=by
 unfold bf;simp only[ZF,beq_iff_eq]
 constructor
 ·rintro⟨h1,h2,h3,h4⟩
  obtain⟨p,hp,e1⟩:=(bn _).1 h1;obtain⟨q,hq,e2⟩:=(bn _).1 h2;obtain⟨f1,f2⟩:=f;simp only at e1 e2 h3 h4;subst e1 e2;rw[aU,aU] at h4
  have hqp:0<q:=by
   rcases cG q with ⟨_,h⟩ | ⟨e,_⟩ | ⟨e,_⟩
   ·exact h
   ·have:q.sign=1:=h3;omega
   ·have:q.sign=1:=h3;omega
  refine⟨⟨p,q.natAbs,by omega,h4⟩,⟨hp,hq⟩,?_⟩
  unfold ah;rw[show ((q.natAbs:Nat):Int)=q by omega]
 ·rintro⟨x,⟨h1,h2⟩,rfl⟩
  have hd:(x.den:Int).natAbs<LIM:=by rw[YN];exact h2
  refine⟨bP h1,bP hd,IR (den_pos x),?_⟩;unfold ah;rw[aU,aU,YN];exact x.reduced
theorem fa {x:Rat} (h:cr x):bf (ah x)=true:=(kO _).2 ⟨x,h,rfl⟩
theorem uT {x:Rat} (h:cr x):(x.den:Int).natAbs<LIM:=by rw[YN];exact h.2
theorem eZ {z:Int} (h:z.natAbs<LIM):(dg z.natAbs).length≤1000000:=by have:=fU h;omega
def DZ (a:Raw):Bool:=(qe a).2&&((qe a).1==1)
theorem Ir {z:Int} (h:z.natAbs<LIM):DZ (aS z)=decide (z=1):=by
 unfold DZ qe;rw[bP h,aU]
 by_cases hi:ct z
 ·rw[if_pos ⟨rfl,hi⟩]
  simp only[ZG]
  rfl
 ·rw[if_neg fun h=>hi h.2]
  have:z≠1:=by rintro rfl;exact hi (by unfold ct;omega)
  simp [this]
noncomputable def D9:List Data→Option PRes:=FF (α:=Int × (List Int)) (fun (s,l)=>([.agg [.int .i64 s,.sl (l.map aa)]]:List Data)) (fun (s,l)=>aH (l.length≤1000000) (.same (.bool (DZ (s,l)))))
theorem Dm:∀ a b:Int × (List Int),(fun (s,l)=>([.agg [.int .i64 s,.sl (l.map aa)]]:List Data)) a=(fun (s,l)=>([.agg [.int .i64 s,.sl (l.map aa)]]:List Data)) b→a=b:=by
  rintro⟨s1,l1⟩ ⟨s2,l2⟩ h;simp only[List.cons.injEq,Data.agg.injEq,Data.int.injEq,Data.sl.injEq] at h;exact YO h.1.1.2 (af aj _ _ h.1.2.1)
@[go_sem] theorem Qa (s:Int) (l:List Int) (hc:l.length≤1000000):D9 [.agg [.int .i64 s,.sl (l.map aa)]]=some (.same (.bool (DZ (s,l)))):=(aY Dm (s,l)).trans (al hc _)
theorem PN (T:Tab) (qj:T pq=mkE tB) (s:Int) (l:List Int) (hc:l.length≤1000000) :
  wp T mf_frac_one.body (bF mf_frac_one.res (.same (.bool (DZ (s,l))))) ⟨ax [.dat (.agg [.int .i64 s,.sl (l.map aa)])],emp⟩:=by
 refine ap ?_;simp only[mf_frac_one];unfold DZ;rcases h:(qe (s,l)).2
 ·simp only[go_sem,go_sem_proc,YP,qj,hc,h]
  repeat' (first|refine qS ?_ ?_|fail)<;>intro h<;>simp only[h,go_sem,go_sem_proc,YP,qj,hc,h]
 ·simp only[go_sem,go_sem_proc,YP,qj,hc,h]
  repeat' (first|refine qS ?_ ?_|fail)<;>intro h<;>simp only[h,go_sem,go_sem_proc,YP,qj,hc,h]
noncomputable def fq:List Data→Option PRes:=FF (α:=Int × (List Int) × Int × (List Int)) (fun (s,l,s2,l2)=>([.agg [.int .i64 s,.sl (l.map aa),.int .i64 s2,.sl (l2.map aa)]]:List Data)) (fun (s,l,s2,l2)=>aH (l.length≤1000000∧l2.length≤1000000) (.same (.bool (bf ((s,l),(s2,l2))))))
theorem y0:∀ a b:Int × (List Int) × Int × (List Int),(fun (s,l,s2,l2)=>([.agg [.int .i64 s,.sl (l.map aa),.int .i64 s2,.sl (l2.map aa)]]:List Data)) a=(fun (s,l,s2,l2)=>([.agg [.int .i64 s,.sl (l.map aa),.int .i64 s2,.sl (l2.map aa)]]:List Data)) b→a=b:=by
  rintro⟨s1,l1,s21,l21⟩ ⟨s2,l2,s22,l22⟩ h;simp only[List.cons.injEq,Data.agg.injEq,Data.int.injEq,Data.sl.injEq] at h;exact YO h.1.1.2 (YO (af aj _ _ h.1.2.1) (YO h.1.2.2.1.2 (af aj _ _ h.1.2.2.2.1)))
@[go_sem] theorem Bp (s:Int) (l:List Int) (s2:Int) (l2:List Int) (hc:l.length≤1000000∧l2.length≤1000000):fq [.agg [.int .i64 s,.sl (l.map aa),.int .i64 s2,.sl (l2.map aa)]]=some (.same (.bool (bf ((s,l),(s2,l2))))):=(aY y0 (s,l,s2,l2)).trans (al hc _)
theorem Ke (T:Tab) (ao:T ba=mkE ei) (o9:T kL=mkE FB) (yY:T ol=mkE D9) (s:Int) (l:List Int) (s2:Int) (l2:List Int) (hc:l.length≤1000000∧l2.length≤1000000) :
  wp T mf_frac_Right.body (bF mf_frac_Right.res (.same (.bool (bf ((s,l),(s2,l2)))))) ⟨ax [.dat (.agg [.int .i64 s,.sl (l.map aa),.int .i64 s2,.sl (l2.map aa)])],emp⟩:=by
 refine ap ?_;simp only[mf_frac_Right];obtain⟨hl1,hl2⟩:=hc
 by_cases hr:aK (s,l)=true
 ·by_cases hr2:aK (s2,l2)=true
  ·by_cases hs:s2=1
   ·obtain⟨x,hx,e⟩:=(bn _).1 hr
    obtain⟨y,hy,e2⟩:=(bn _).1 hr2
    have hg:kw (s,l) (s2,l2)=(aS ((ZC x.natAbs y.natAbs:Nat):Int),0):=by
     unfold kw;rw[hr,hr2,e,e2,aU,aU];rfl
    have hgl:=rt hx hy
    have ho:DZ (aS ((ZC x.natAbs y.natAbs:Nat):Int))=(ZC x.natAbs y.natAbs==1):=by
     rw[Ir (by rw[YN];exact hgl)];rw[Bool.eq_iff_iff];simp;omega
    have hv1:gV (s,l)=x:=by rw[e,aU]
    have hv2:gV (s2,l2)=y:=by rw[e2,aU]
    have hR:bf ((s,l),(s2,l2))=(ZC x.natAbs y.natAbs==1):=by
     show (aK (s,l)&&(aK (s2,l2)&&((s2==1)&&(ZC (gV (s,l)).natAbs (gV (s2,l2)).natAbs==1))))=_;rw[hr,hr2,hv1,hv2,show (s2==1)=true by simpa using hs]
     simp only[ZG]
    have hgl2:((aS ((ZC x.natAbs y.natAbs:Nat):Int)).2).length≤1000000:=eZ (by rw[YN];exact hgl);rw[hR,←ho];generalize aS ((ZC x.natAbs y.natAbs:Nat):Int)=G at *;obtain⟨g1,g2⟩:=G;have hs':(s2==1)=true:=by simpa using hs
    refine qI ?_
    repeat' (intro h<;>simp only[h,go_sem,go_sem_proc,YP,ao,o9,yY,hr,hr2,hl1,hl2,hs',hg,hgl2,dY,bH,show ((0:Int)==0)=true from rfl]<;>try refine qS ?_ ?_)
   ·have hR:bf ((s,l),(s2,l2))=false:=by unfold bf;simp [hs]
    have hs':(s2==1)=false:=by simpa using hs
    rw[hR];refine qI ?_
    repeat' (intro h<;>simp only[h,go_sem,go_sem_proc,YP,ao,o9,yY,hr,hr2,hl1,hl2,hs']<;>try refine qS ?_ ?_)
  ·have hr2:aK (s2,l2)=false:=by simpa using hr2
   have hR:bf ((s,l),(s2,l2))=false:=by unfold bf;simp [hr2]
   rw[hR];refine qI ?_
   repeat' (intro h<;>simp only[h,go_sem,go_sem_proc,YP,ao,o9,yY,hr,hr2,hl1,hl2]<;>try refine qS ?_ ?_)
 ·have hr:aK (s,l)=false:=by simpa using hr
  have hR:bf ((s,l),(s2,l2))=false:=by unfold bf;simp [hr]
  rw[hR];refine qI ?_
  repeat' (intro h<;>simp only[h,go_sem,go_sem_proc,YP,ao,o9,yY,hr,hl1,hl2]<;>try refine qS ?_ ?_)
def fW (p q:Raw):aG × Int :=
 if (aK p&&aK q)=true then (if gV q=0 then (cj,15) else (ah (ZD (gV p) (gV q)),0)) else (cj,1)
theorem i9 {p q:Int} (hp:p.natAbs<LIM) (hq:q.natAbs<LIM) (h0:q≠0):fW (aS p) (aS q)=(ah (ZD p q),0):=by
 unfold fW;rw[bP hp,bP hq,aU,aU,if_pos (by rfl),if_neg h0]
theorem nr {p q:Int} (hq:0<q):(ZD p q).num=p.fdiv ((ZC p.natAbs q.natAbs:Nat):Int)∧((ZD p q).den:Int)=q.fdiv ((ZC p.natAbs q.natAbs:Nat):Int):=by
 rw[Rat.num_divInt,Rat.den_divInt,if_neg (by omega),YW hq,YF];have hg:q.gcd p=ZC p.natAbs q.natAbs:=by rw[Int.gcd_comm];rfl
 rw[hg];have h0:(0:Int)≤((ZC p.natAbs q.natAbs:Nat):Int):=Int.natCast_nonneg _;rw[ZH _ h0,ZH _ h0];refine⟨rfl,?_⟩;rw[Int.natCast_ediv]
 congr 1
 omega
theorem tX {p q:Int} (hq:q≠0):0<ZC p.natAbs q.natAbs:=Nat.gcd_pos_of_pos_right _ (by omega)
theorem nA {p q:Int} (hp:p.natAbs<LIM) (hq:q.natAbs<LIM):cr (ZD p q):=by
 have main:∀ {p q:Int},p.natAbs<LIM→q.natAbs<LIM→0<q→cr (ZD p q):=by
  intro p q hp hq h0;obtain⟨h1,h2⟩:=nr (p:=p) h0;have hg:=tX (p:=p) (q:=q) (by omega);refine⟨?_,?_⟩
  ·rw[h1];exact mn hp (by omega)
  ·have:=mn (y:=((ZC p.natAbs q.natAbs:Nat):Int)) hq (by omega)
   rw[←h2,YN] at this;exact this
 rcases ZJ q 0 with h | h | h
 ·rw[←ZK]
  exact main (by omega) (by omega) (by omega)
 ·subst h
  rw[Rat.divInt_zero];unfold cr LIM;exact⟨Nat.pow_pos (by omega),Nat.one_lt_pow (by omega) (by omega)⟩
 ·exact main hp hq h
noncomputable def yK:List Data→Option PRes:=FF (α:=Int × (List Int) × Int × (List Int)) (fun (s,l,s2,l2)=>([.agg [.int .i64 s,.sl (l.map aa)],.agg [.int .i64 s2,.sl (l2.map aa)]]:List Data)) (fun (s,l,s2,l2)=>aH (l.length≤1000000∧l2.length≤1000000) (.same (bD (fW (s,l) (s2,l2)))))
theorem C3:∀ a b:Int × (List Int) × Int × (List Int),(fun (s,l,s2,l2)=>([.agg [.int .i64 s,.sl (l.map aa)],.agg [.int .i64 s2,.sl (l2.map aa)]]:List Data)) a=(fun (s,l,s2,l2)=>([.agg [.int .i64 s,.sl (l.map aa)],.agg [.int .i64 s2,.sl (l2.map aa)]]:List Data)) b→a=b:=by
  rintro⟨s1,l1,s21,l21⟩ ⟨s2,l2,s22,l22⟩ h;simp only[List.cons.injEq,Data.agg.injEq,Data.int.injEq,Data.sl.injEq] at h;exact YO h.1.1.2 (YO (af aj _ _ h.1.2.1) (YO h.2.1.1.2 (af aj _ _ h.2.1.2.1)))
@[go_sem] theorem Qq (s:Int) (l:List Int) (s2:Int) (l2:List Int) (hc:l.length≤1000000∧l2.length≤1000000):yK [.agg [.int .i64 s,.sl (l.map aa)],.agg [.int .i64 s2,.sl (l2.map aa)]]=some (.same (bD (fW (s,l) (s2,l2)))):=(aY C3 (s,l,s2,l2)).trans (al hc _)
theorem OI (T:Tab) (ao:T ba=mkE ei) (rD:T jt=mkE Ew) (o9:T kL=mkE FB) (ki:T iB=mkE Fk) (s:Int) (l:List Int) (s2:Int) (l2:List Int) (hc:l.length≤1000000∧l2.length≤1000000) :
  wp T mf_frac_New.body (bF mf_frac_New.res (.same (bD (fW (s,l) (s2,l2))))) ⟨ax [.dat (.agg [.int .i64 s,.sl (l.map aa)]),.dat (.agg [.int .i64 s2,.sl (l2.map aa)])],emp⟩:=by
 refine ap ?_;simp only[mf_frac_New];obtain⟨hl1,hl2⟩:=hc
 by_cases hr:aK (s,l)=true
 ·by_cases hr2:aK (s2,l2)=true
  ·obtain⟨x,hx,e⟩:=(bn _).1 hr
   obtain⟨y,hy,e2⟩:=(bn _).1 hr2
   by_cases h0:y=0
   ·have hm:fW (s,l) (s2,l2)=(cj,15):=by
     unfold fW;rw[hr,hr2,e2,aU,if_pos (by rfl),if_pos h0]
    rw[hm]
    cases e
    cases e2;have hs:(y.sign==0)=true:=by rw[h0];rfl
    refine qI ?_
    repeat' (intro h<;>simp only[h,go_sem,go_sem_proc,YP,ao,rD,o9,ki,hr,hr2,hl1,hl2,hs,bD,ad,cj,YQ]<;>try refine qS ?_ ?_)
   ·have main:∀ p q:Int,p.natAbs<LIM→q.natAbs<LIM→0<q→∃ g:Raw,kw (aS p) (aS q)=(g,0)∧g.2.length≤1000000∧jv (aS p) g=(aS (ZD p q).num,aS (p.fmod ((ZC p.natAbs q.natAbs:Nat):Int)),0)∧jv (aS q) g=(aS (ZD p q).den,aS (q.fmod ((ZC p.natAbs q.natAbs:Nat):Int)),0):=by
     intro p q hp hq hq0;have hgl:=rt hp hq;have hgl':((ZC p.natAbs q.natAbs:Nat):Int).natAbs<LIM:=by rw[YN];exact hgl
     have hg0:=tX (p:=p) (q:=q) (by omega);obtain⟨h1,h2⟩:=nr (p:=p) hq0;refine⟨aS ((ZC p.natAbs q.natAbs:Nat):Int),?_,eZ hgl',?_,?_⟩
     ·unfold kw;rw[bP hp,bP hq,aU,aU];rfl
     ·rw[lg hp hgl' (by omega),h1]
     ·rw[lg hq hgl' (by omega),h2]
    have hs0:(y.sign==0)=false:=by simpa using h0
    rcases Int.lt_or_gt_of_ne h0 with hneg | hpos
    ·have hs1:decide (y.sign<0)=true:=by rw[Y5 hneg];rfl
     obtain⟨⟨g1,g2⟩,hg,hgl,hd1,hd2⟩:=main (-x) (-y) (by omega) (by omega) (by omega)
     have hm:fW (s,l) (s2,l2)=(ah (ZD (-x) (-y)),0):=by
      rw[e,e2,i9 hx hy h0,ZK]
     rw[hm];have hn1:jd (s,l)=aS (-x):=by unfold jd;rw[if_pos hr,e,aU]
     have hn2:jd (s2,l2)=aS (-y):=by unfold jd;rw[if_pos hr2,e2,aU]
     have hy1:s2=y.sign:=congrArg ZL e2;have hl3:(aS (-x)).2.length≤1000000:=eZ (by omega);have hl4:(aS (-y)).2.length≤1000000:=eZ (by omega);clear e e2;unfold ah;generalize aS (-x)=X at *;generalize aS (-y)=Y at *;obtain⟨x1,x2⟩:=X;obtain⟨y1,y2⟩:=Y;rw[←hy1] at hs0 hs1;refine qI ?_
     repeat' (intro h<;>simp only[h,go_sem,go_sem_proc,YP,ao,rD,o9,ki,hr,hr2,hl1,hl2,hs0,hs1,hn1,hn2,hl3,hl4,hg,hgl,hd1,hd2,bD,ad,dY,dm,bH]<;>try refine qS ?_ ?_)
    ·have hs1:decide (y.sign<0)=false:=by rw[YW hpos];rfl
     obtain⟨⟨g1,g2⟩,hg,hgl,hd1,hd2⟩:=main x y hx hy hpos
     have hm:fW (s,l) (s2,l2)=(ah (ZD x y),0):=by
      rw[e,e2,i9 hx hy h0]
     rw[hm];have hy1:s2=y.sign:=congrArg ZL e2;rw[←e] at hg hd1;rw[←e2] at hg hd2;rw[←hy1] at hs0 hs1;unfold ah;refine qI ?_
     repeat' (intro h<;>simp only[h,go_sem,go_sem_proc,YP,ao,rD,o9,ki,hr,hr2,hl1,hl2,hs0,hs1,hg,hgl,hd1,hd2,bD,ad,dY,dm,bH]<;>try refine qS ?_ ?_)
  ·have hr2:aK (s2,l2)=false:=by simpa using hr2
   have hm:fW (s,l) (s2,l2)=(cj,1):=by unfold fW;rw[hr2,Y0];rfl
   rw[hm];refine qI ?_
   repeat' (intro h<;>simp only[h,go_sem,go_sem_proc,YP,ao,rD,o9,ki,hr,hr2,hl1,hl2,bD,ad,cj,YQ]<;>try refine qS ?_ ?_)
 ·have hr:aK (s,l)=false:=by simpa using hr
  have hm:fW (s,l) (s2,l2)=(cj,1):=by unfold fW;rw[hr,Y1];rfl
  rw[hm];refine qI ?_
  repeat' (intro h<;>simp only[h,go_sem,go_sem_proc,YP,ao,rD,o9,ki,hr,hl1,hl2,bD,ad,cj,YQ]<;>try refine qS ?_ ?_)
noncomputable def BW:List Data→Option PRes:=FF (α:=Int × Int) (fun (p,q)=>([.int .i64 p,.int .i64 q]:List Data)) (fun (p,q)=>aH (ct p∧ct q) (.same (bD (fW (aS p) (aS q)))))
theorem HF:∀ a b:Int × Int,(fun (p,q)=>([.int .i64 p,.int .i64 q]:List Data)) a=(fun (p,q)=>([.int .i64 p,.int .i64 q]:List Data)) b→a=b:=by
  rintro⟨p1,q1⟩ ⟨p2,q2⟩ h;simp only[List.cons.injEq,Data.int.injEq,Data.agg.injEq,Data.sl.injEq,Data.bool.injEq,Data.str.injEq,Data.ptr.injEq,Data.tup.injEq,Prod.mk.injEq,true_and,and_true] at h ⊢
  first | exact h | simpa [Y2,and_assoc] using h | grind
@[go_sem] theorem Kr (p:Int) (q:Int) (hc:ct p∧ct q):BW [.int .i64 p,.int .i64 q]=some (.same (bD (fW (aS p) (aS q)))):=(aY HF (p,q)).trans (al hc _)
theorem Sl (T:Tab) (NB:T oO=mkE zx) (uC:T jO=mkE yK) (p:Int) (q:Int) (hc:ct p∧ct q) :
  wp T mf_frac_Of.body (bF mf_frac_Of.res (.same (bD (fW (aS p) (aS q))))) ⟨ax [.dat (.int .i64 p),.dat (.int .i64 q)],emp⟩:=by
 refine ap ?_;simp only[mf_frac_Of];obtain⟨h1,h2⟩:=hc;have l1:(aS p).2.length≤1000000:=eZ (jI h1);have l2:(aS q).2.length≤1000000:=eZ (jI h2);generalize hP:aS p=P at *;generalize hQ:aS q=Q at *;obtain⟨x1,x2⟩:=P;obtain⟨y1,y2⟩:=Q;refine qI ?_
 repeat' (intro h<;>simp only[h,go_sem,go_sem_proc,YP,NB,uC,h1,h2,hP,hQ,l1,l2,bH,bD,ad]<;>try refine qS ?_ ?_)
def vG (a b c d:Raw):Raw × Int :=
 if ((gw a b).2==0)=true then (if ((gw c d).2==0)=true then qH (gw a b).1 (gw c d).1 else ((0,[]),(gw c d).2)) else ((0,[]),(gw a b).2)
theorem wQ (z:Int):(lz z).1.2.length≤1000000:=by
 unfold lz
 split
 ·exact eZ (by assumption)
 ·simp
theorem kN (a b:Raw):(gw a b).1.2.length≤1000000:=by
 unfold gw
 split
 ·exact wQ _
 ·simp
theorem JH (a b:Raw):(qH a b).1.2.length≤1000000:=by
 unfold qH
 split
 ·exact wQ _
 ·simp
theorem I0 (a b c d:Raw):(vG a b c d).1.2.length≤1000000:=by
 unfold vG
 split
 ·split
  ·exact JH _ _
  ·simp
 ·simp
noncomputable def Eb:List Data→Option PRes:=FF (α:=Int × (List Int) × Int × (List Int) × Int × (List Int) × Int × (List Int)) (fun (s,l,s2,l2,s3,l3,s4,l4)=>([.agg [.int .i64 s,.sl (l.map aa)],.agg [.int .i64 s2,.sl (l2.map aa)],.agg [.int .i64 s3,.sl (l3.map aa)],.agg [.int .i64 s4,.sl (l4.map aa)]]:List Data)) (fun (s,l,s2,l2,s3,l3,s4,l4)=>aH (l.length≤1000000∧l2.length≤1000000∧l3.length≤1000000∧l4.length≤1000000) (.same (dY (vG (s,l) (s2,l2) (s3,l3) (s4,l4)))))
theorem Dz:∀ a b:Int × (List Int) × Int × (List Int) × Int × (List Int) × Int × (List Int),(fun (s,l,s2,l2,s3,l3,s4,l4)=>([.agg [.int .i64 s,.sl (l.map aa)],.agg [.int .i64 s2,.sl (l2.map aa)],.agg [.int .i64 s3,.sl (l3.map aa)],.agg [.int .i64 s4,.sl (l4.map aa)]]:List Data)) a=(fun (s,l,s2,l2,s3,l3,s4,l4)=>([.agg [.int .i64 s,.sl (l.map aa)],.agg [.int .i64 s2,.sl (l2.map aa)],.agg [.int .i64 s3,.sl (l3.map aa)],.agg [.int .i64 s4,.sl (l4.map aa)]]:List Data)) b→a=b:=by
  rintro⟨s1,l1,s21,l21,s31,l31,s41,l41⟩ ⟨s2,l2,s22,l22,s32,l32,s42,l42⟩ h;simp only[List.cons.injEq,Data.agg.injEq,Data.int.injEq,Data.sl.injEq] at h;exact YO h.1.1.2 (YO (af aj _ _ h.1.2.1) (YO h.2.1.1.2 (YO (af aj _ _ h.2.1.2.1) (YO h.2.2.1.1.2 (YO (af aj _ _ h.2.2.1.2.1) (YO h.2.2.2.1.1.2 (af aj _ _ h.2.2.2.1.2.1)))))))
@[go_sem] theorem Qw (s:Int) (l:List Int) (s2:Int) (l2:List Int) (s3:Int) (l3:List Int) (s4:Int) (l4:List Int) (hc:l.length≤1000000∧l2.length≤1000000∧l3.length≤1000000∧l4.length≤1000000):Eb [.agg [.int .i64 s,.sl (l.map aa)],.agg [.int .i64 s2,.sl (l2.map aa)],.agg [.int .i64 s3,.sl (l3.map aa)],.agg [.int .i64 s4,.sl (l4.map aa)]]=some (.same (dY (vG (s,l) (s2,l2) (s3,l3) (s4,l4)))):=(aY Dz (s,l,s2,l2,s3,l3,s4,l4)).trans (al hc _)
theorem PO (T:Tab) (kj:T dS=mkE xu) (IK:T py=mkE Kc) (s:Int) (l:List Int) (s2:Int) (l2:List Int) (s3:Int) (l3:List Int) (s4:Int) (l4:List Int) (hc:l.length≤1000000∧l2.length≤1000000∧l3.length≤1000000∧l4.length≤1000000) :
  wp T mf_frac_sum.body (bF mf_frac_sum.res (.same (dY (vG (s,l) (s2,l2) (s3,l3) (s4,l4))))) ⟨ax [.dat (.agg [.int .i64 s,.sl (l.map aa)]),.dat (.agg [.int .i64 s2,.sl (l2.map aa)]),.dat (.agg [.int .i64 s3,.sl (l3.map aa)]),.dat (.agg [.int .i64 s4,.sl (l4.map aa)])],emp⟩:=by
 refine ap ?_;simp only[mf_frac_sum];obtain⟨hl1,hl2,hl3,hl4⟩:=hc;have m1:=kN (s,l) (s2,l2);have m2:=kN (s3,l3) (s4,l4);unfold vG;generalize hM1:gw (s,l) (s2,l2)=M1 at *;generalize hM2:gw (s3,l3) (s4,l4)=M2 at *;obtain⟨⟨a1,a2⟩,e1⟩:=M1;obtain⟨⟨b1,b2⟩,e2⟩:=M2;rcases h1:(e1==0)
 ·refine qI ?_
  repeat' (intro h<;>simp only[h,go_sem,go_sem_proc,YP,kj,IK,hl1,hl2,hl3,hl4,hM1,h1,m1,m2,dY,bH,YQ]<;>try refine qS ?_ ?_)
 ·have z1:e1=0:=by simpa using h1
  subst z1;rcases h2:(e2==0)
  ·refine qI ?_
   repeat' (intro h<;>simp only[h,go_sem,go_sem_proc,YP,kj,IK,hl1,hl2,hl3,hl4,hM1,hM2,h1,h2,m1,m2,dY,bH,YQ]<;>try refine qS ?_ ?_)
  ·have z2:e2=0:=by simpa using h2
   subst z2;refine qI ?_
   repeat' (intro h<;>simp only[h,go_sem,go_sem_proc,YP,kj,IK,hl1,hl2,hl3,hl4,hM1,hM2,h1,m1,m2,dY,bH,YQ]<;>try refine qS ?_ ?_)
def nD (p:Raw × Int) (q:Raw × Int):aG × Int:=if (p.2==0)=true then (if (q.2==0)=true then fW p.1 q.1 else (cj,6)) else (cj,6)
noncomputable def qd:List Data→Option PRes:=FF (α:=Int × (List Int) × Int × Int × (List Int) × Int) (fun (s,l,e,s2,l2,e2)=>([.agg [.int .i64 s,.sl (l.map aa)],.int .i64 e,.agg [.int .i64 s2,.sl (l2.map aa)],.int .i64 e2]:List Data)) (fun (s,l,e,s2,l2,e2)=>aH (l.length≤1000000∧l2.length≤1000000) (.same (bD (nD ((s,l),e) ((s2,l2),e2)))))
theorem BB:∀ a b:Int × (List Int) × Int × Int × (List Int) × Int,(fun (s,l,e,s2,l2,e2)=>([.agg [.int .i64 s,.sl (l.map aa)],.int .i64 e,.agg [.int .i64 s2,.sl (l2.map aa)],.int .i64 e2]:List Data)) a=(fun (s,l,e,s2,l2,e2)=>([.agg [.int .i64 s,.sl (l.map aa)],.int .i64 e,.agg [.int .i64 s2,.sl (l2.map aa)],.int .i64 e2]:List Data)) b→a=b:=by
  rintro⟨s1,l1,e1,s21,l21,e21⟩ ⟨s2,l2,e2,s22,l22,e22⟩ h;simp only[List.cons.injEq,Data.agg.injEq,Data.int.injEq,Data.sl.injEq] at h;exact YO h.1.1.2 (YO (af aj _ _ h.1.2.1) (YO h.2.1.2 (YO h.2.2.1.1.2 (YO (af aj _ _ h.2.2.1.2.1) h.2.2.2.1.2))))
@[go_sem] theorem PR (s:Int) (l:List Int) (e:Int) (s2:Int) (l2:List Int) (e2:Int) (hc:l.length≤1000000∧l2.length≤1000000):qd [.agg [.int .i64 s,.sl (l.map aa)],.int .i64 e,.agg [.int .i64 s2,.sl (l2.map aa)],.int .i64 e2]=some (.same (bD (nD ((s,l),e) ((s2,l2),e2)))):=(aY BB (s,l,e,s2,l2,e2)).trans (al hc _)
theorem NE (T:Tab) (uC:T jO=mkE yK) (s:Int) (l:List Int) (e:Int) (s2:Int) (l2:List Int) (e2:Int) (hc:l.length≤1000000∧l2.length≤1000000) :
  wp T mf_frac_quotient.body (bF mf_frac_quotient.res (.same (bD (nD ((s,l),e) ((s2,l2),e2))))) ⟨ax [.dat (.agg [.int .i64 s,.sl (l.map aa)]),.dat (.int .i64 e),.dat (.agg [.int .i64 s2,.sl (l2.map aa)]),.dat (.int .i64 e2)],emp⟩:=by
 refine ap ?_;simp only[mf_frac_quotient];obtain⟨hl1,hl2⟩:=hc;unfold nD;rcases h1:(e==0)
 ·refine qI ?_
  repeat' (intro h<;>simp only[h,go_sem,go_sem_proc,YP,uC,hl1,hl2,h1,bD,ad,cj,YQ]<;>try refine qS ?_ ?_)
 ·have z1:e=0:=by simpa using h1
  subst z1;rcases h2:(e2==0)
  ·refine qI ?_
   repeat' (intro h<;>simp only[h,go_sem,go_sem_proc,YP,uC,hl1,hl2,h1,h2,bD,ad,cj,YQ]<;>try refine qS ?_ ?_)
  ·have z2:e2=0:=by simpa using h2
   subst z2;refine qI ?_
   repeat' (intro h<;>simp only[h,go_sem,go_sem_proc,YP,uC,hl1,hl2,h1,bD,ad,cj,YQ]<;>try refine qS ?_ ?_)
def s9 (a b:aG):aG × Int:=if bf a=true then (if bf b=true then nD (vG a.1 b.2 b.1 a.2) (gw a.2 b.2) else (cj,1)) else (cj,1)
def nH (a b:aG):aG × Int:=if bf a=true then (if bf b=true then s9 a (jd b.1,b.2) else (cj,1)) else (cj,1)
def mo (a b:aG):aG × Int:=if bf a=true then (if bf b=true then nD (gw a.1 b.1) (gw a.2 b.2) else (cj,1)) else (cj,1)
def i6 (a b:aG):aG × Int:=if bf a=true then (if bf b=true then (if (b.1.1==0)=true then (cj,15) else nD (gw a.1 b.2) (gw a.2 b.1)) else (cj,1)) else (cj,1)
theorem I8 (a:Raw) (h:a.2.length≤1000000):(jd a).2.length≤1000000:=by
 unfold jd
 split
 ·rename_i hr
  obtain⟨z,hz,e⟩:=(bn _).1 hr;rw[e,aU];exact eZ (by omega)
 ·simp
noncomputable def lj:List Data→Option PRes:=FF (α:=Int × (List Int) × Int × (List Int) × Int × (List Int) × Int × (List Int)) (fun (s,l,s2,l2,s3,l3,s4,l4)=>([.agg [.int .i64 s,.sl (l.map aa),.int .i64 s2,.sl (l2.map aa)],.agg [.int .i64 s3,.sl (l3.map aa),.int .i64 s4,.sl (l4.map aa)]]:List Data)) (fun (s,l,s2,l2,s3,l3,s4,l4)=>aH (l.length≤1000000∧l2.length≤1000000∧l3.length≤1000000∧l4.length≤1000000) (.same (bD (s9 ((s,l),(s2,l2)) ((s3,l3),(s4,l4))))))
theorem Ed:∀ a b:Int × (List Int) × Int × (List Int) × Int × (List Int) × Int × (List Int),(fun (s,l,s2,l2,s3,l3,s4,l4)=>([.agg [.int .i64 s,.sl (l.map aa),.int .i64 s2,.sl (l2.map aa)],.agg [.int .i64 s3,.sl (l3.map aa),.int .i64 s4,.sl (l4.map aa)]]:List Data)) a=(fun (s,l,s2,l2,s3,l3,s4,l4)=>([.agg [.int .i64 s,.sl (l.map aa),.int .i64 s2,.sl (l2.map aa)],.agg [.int .i64 s3,.sl (l3.map aa),.int .i64 s4,.sl (l4.map aa)]]:List Data)) b→a=b:=by
  rintro⟨s1,l1,s21,l21,s31,l31,s41,l41⟩ ⟨s2,l2,s22,l22,s32,l32,s42,l42⟩ h;simp only[List.cons.injEq,Data.agg.injEq,Data.int.injEq,Data.sl.injEq] at h;exact YO h.1.1.2 (YO (af aj _ _ h.1.2.1) (YO h.1.2.2.1.2 (YO (af aj _ _ h.1.2.2.2.1) (YO h.2.1.1.2 (YO (af aj _ _ h.2.1.2.1) (YO h.2.1.2.2.1.2 (af aj _ _ h.2.1.2.2.2.1)))))))
@[go_sem] theorem xt (s:Int) (l:List Int) (s2:Int) (l2:List Int) (s3:Int) (l3:List Int) (s4:Int) (l4:List Int) (hc:l.length≤1000000∧l2.length≤1000000∧l3.length≤1000000∧l4.length≤1000000):lj [.agg [.int .i64 s,.sl (l.map aa),.int .i64 s2,.sl (l2.map aa)],.agg [.int .i64 s3,.sl (l3.map aa),.int .i64 s4,.sl (l4.map aa)]]=some (.same (bD (s9 ((s,l),(s2,l2)) ((s3,l3),(s4,l4))))):=(aY Ed (s,l,s2,l2,s3,l3,s4,l4)).trans (al hc _)
theorem Pf (T:Tab) (aE:T aT=mkE fq) (Dq:T nX=mkE Eb) (kj:T dS=mkE xu) (iq:T dF=mkE qd) (s:Int) (l:List Int) (s2:Int) (l2:List Int) (s3:Int) (l3:List Int) (s4:Int) (l4:List Int) (hc:l.length≤1000000∧l2.length≤1000000∧l3.length≤1000000∧l4.length≤1000000) :
  wp T mf_frac_Add.body (bF mf_frac_Add.res (.same (bD (s9 ((s,l),(s2,l2)) ((s3,l3),(s4,l4)))))) ⟨ax [.dat (.agg [.int .i64 s,.sl (l.map aa),.int .i64 s2,.sl (l2.map aa)]),.dat (.agg [.int .i64 s3,.sl (l3.map aa),.int .i64 s4,.sl (l4.map aa)])],emp⟩:=by
 refine ap ?_;simp only[mf_frac_Add];obtain⟨hl1,hl2,hl3,hl4⟩:=hc;unfold s9
 by_cases hr:bf ((s,l),(s2,l2))=true
 ·by_cases hr2:bf ((s3,l3),(s4,l4))=true
  ·have m1:=I0 (s,l) (s4,l4) (s3,l3) (s2,l2)
   have m2:=kN (s2,l2) (s4,l4);rw[if_pos hr,if_pos hr2];dsimp only;generalize hM1:vG (s,l) (s4,l4) (s3,l3) (s2,l2)=M1 at *;generalize hM2:gw (s2,l2) (s4,l4)=M2 at *;obtain⟨⟨a1,a2⟩,e1⟩:=M1;obtain⟨⟨b1,b2⟩,e2⟩:=M2;refine qI ?_
   repeat' (intro h<;>simp only[h,go_sem,go_sem_proc,YP,aE,Dq,kj,iq,hl1,hl2,hl3,hl4,hr,hr2,hM1,hM2,m1,m2,dY,bH,bD,ad]<;>try refine qS ?_ ?_)
  ·have hr2:bf ((s3,l3),(s4,l4))=false:=by simpa using hr2
   rw[if_pos hr,if_neg (by simp [hr2])];refine qI ?_
   repeat' (intro h<;>simp only[h,go_sem,go_sem_proc,YP,aE,Dq,kj,iq,hl1,hl2,hl3,hl4,hr,hr2,bD,ad,cj,YQ]<;>try refine qS ?_ ?_)
 ·have hr:bf ((s,l),(s2,l2))=false:=by simpa using hr
  rw[if_neg (by simp [hr])];refine qI ?_
  repeat' (intro h<;>simp only[h,go_sem,go_sem_proc,YP,aE,Dq,kj,iq,hl1,hl2,hl3,hl4,hr,bD,ad,cj,YQ]<;>try refine qS ?_ ?_)
noncomputable def kQ:List Data→Option PRes:=FF (α:=Int × (List Int) × Int × (List Int) × Int × (List Int) × Int × (List Int)) (fun (s,l,s2,l2,s3,l3,s4,l4)=>([.agg [.int .i64 s,.sl (l.map aa),.int .i64 s2,.sl (l2.map aa)],.agg [.int .i64 s3,.sl (l3.map aa),.int .i64 s4,.sl (l4.map aa)]]:List Data)) (fun (s,l,s2,l2,s3,l3,s4,l4)=>aH (l.length≤1000000∧l2.length≤1000000∧l3.length≤1000000∧l4.length≤1000000) (.same (bD (nH ((s,l),(s2,l2)) ((s3,l3),(s4,l4))))))
theorem Du:∀ a b:Int × (List Int) × Int × (List Int) × Int × (List Int) × Int × (List Int),(fun (s,l,s2,l2,s3,l3,s4,l4)=>([.agg [.int .i64 s,.sl (l.map aa),.int .i64 s2,.sl (l2.map aa)],.agg [.int .i64 s3,.sl (l3.map aa),.int .i64 s4,.sl (l4.map aa)]]:List Data)) a=(fun (s,l,s2,l2,s3,l3,s4,l4)=>([.agg [.int .i64 s,.sl (l.map aa),.int .i64 s2,.sl (l2.map aa)],.agg [.int .i64 s3,.sl (l3.map aa),.int .i64 s4,.sl (l4.map aa)]]:List Data)) b→a=b:=by
  rintro⟨s1,l1,s21,l21,s31,l31,s41,l41⟩ ⟨s2,l2,s22,l22,s32,l32,s42,l42⟩ h;simp only[List.cons.injEq,Data.agg.injEq,Data.int.injEq,Data.sl.injEq] at h;exact YO h.1.1.2 (YO (af aj _ _ h.1.2.1) (YO h.1.2.2.1.2 (YO (af aj _ _ h.1.2.2.2.1) (YO h.2.1.1.2 (YO (af aj _ _ h.2.1.2.1) (YO h.2.1.2.2.1.2 (af aj _ _ h.2.1.2.2.2.1)))))))
@[go_sem] theorem HM (s:Int) (l:List Int) (s2:Int) (l2:List Int) (s3:Int) (l3:List Int) (s4:Int) (l4:List Int) (hc:l.length≤1000000∧l2.length≤1000000∧l3.length≤1000000∧l4.length≤1000000):kQ [.agg [.int .i64 s,.sl (l.map aa),.int .i64 s2,.sl (l2.map aa)],.agg [.int .i64 s3,.sl (l3.map aa),.int .i64 s4,.sl (l4.map aa)]]=some (.same (bD (nH ((s,l),(s2,l2)) ((s3,l3),(s4,l4))))):=(aY Du (s,l,s2,l2,s3,l3,s4,l4)).trans (al hc _)
theorem Pi (T:Tab) (aE:T aT=mkE fq) (rD:T jt=mkE Ew) (bA:T cS=mkE lj) (s:Int) (l:List Int) (s2:Int) (l2:List Int) (s3:Int) (l3:List Int) (s4:Int) (l4:List Int) (hc:l.length≤1000000∧l2.length≤1000000∧l3.length≤1000000∧l4.length≤1000000) :
  wp T mf_frac_Sub.body (bF mf_frac_Sub.res (.same (bD (nH ((s,l),(s2,l2)) ((s3,l3),(s4,l4)))))) ⟨ax [.dat (.agg [.int .i64 s,.sl (l.map aa),.int .i64 s2,.sl (l2.map aa)]),.dat (.agg [.int .i64 s3,.sl (l3.map aa),.int .i64 s4,.sl (l4.map aa)])],emp⟩:=by
 refine ap ?_;simp only[mf_frac_Sub];obtain⟨hl1,hl2,hl3,hl4⟩:=hc;unfold nH
 by_cases hr:bf ((s,l),(s2,l2))=true
 ·by_cases hr2:bf ((s3,l3),(s4,l4))=true
  ·have m1:=I8 (s3,l3) hl3
   rw[if_pos hr,if_pos hr2];dsimp only;generalize hM1:jd (s3,l3)=M1 at *;obtain⟨a1,a2⟩:=M1;refine qI ?_
   repeat' (intro h<;>simp only[h,go_sem,go_sem_proc,YP,aE,rD,bA,hl1,hl2,hl3,hl4,hr,hr2,hM1,m1,dY,bH,bD,ad]<;>try refine qS ?_ ?_)
  ·have hr2:bf ((s3,l3),(s4,l4))=false:=by simpa using hr2
   rw[if_pos hr,if_neg (by simp [hr2])];refine qI ?_
   repeat' (intro h<;>simp only[h,go_sem,go_sem_proc,YP,aE,rD,bA,hl1,hl2,hl3,hl4,hr,hr2,bD,ad,cj,YQ]<;>try refine qS ?_ ?_)
 ·have hr:bf ((s,l),(s2,l2))=false:=by simpa using hr
  rw[if_neg (by simp [hr])];refine qI ?_
  repeat' (intro h<;>simp only[h,go_sem,go_sem_proc,YP,aE,rD,bA,hl1,hl2,hl3,hl4,hr,bD,ad,cj,YQ]<;>try refine qS ?_ ?_)
noncomputable def l8:List Data→Option PRes:=FF (α:=Int × (List Int) × Int × (List Int) × Int × (List Int) × Int × (List Int)) (fun (s,l,s2,l2,s3,l3,s4,l4)=>([.agg [.int .i64 s,.sl (l.map aa),.int .i64 s2,.sl (l2.map aa)],.agg [.int .i64 s3,.sl (l3.map aa),.int .i64 s4,.sl (l4.map aa)]]:List Data)) (fun (s,l,s2,l2,s3,l3,s4,l4)=>aH (l.length≤1000000∧l2.length≤1000000∧l3.length≤1000000∧l4.length≤1000000) (.same (bD (mo ((s,l),(s2,l2)) ((s3,l3),(s4,l4))))))
theorem CQ:∀ a b:Int × (List Int) × Int × (List Int) × Int × (List Int) × Int × (List Int),(fun (s,l,s2,l2,s3,l3,s4,l4)=>([.agg [.int .i64 s,.sl (l.map aa),.int .i64 s2,.sl (l2.map aa)],.agg [.int .i64 s3,.sl (l3.map aa),.int .i64 s4,.sl (l4.map aa)]]:List Data)) a=(fun (s,l,s2,l2,s3,l3,s4,l4)=>([.agg [.int .i64 s,.sl (l.map aa),.int .i64 s2,.sl (l2.map aa)],.agg [.int .i64 s3,.sl (l3.map aa),.int .i64 s4,.sl (l4.map aa)]]:List Data)) b→a=b:=by
  rintro⟨s1,l1,s21,l21,s31,l31,s41,l41⟩ ⟨s2,l2,s22,l22,s32,l32,s42,l42⟩ h;simp only[List.cons.injEq,Data.agg.injEq,Data.int.injEq,Data.sl.injEq] at h;exact YO h.1.1.2 (YO (af aj _ _ h.1.2.1) (YO h.1.2.2.1.2 (YO (af aj _ _ h.1.2.2.2.1) (YO h.2.1.1.2 (YO (af aj _ _ h.2.1.2.1) (YO h.2.1.2.2.1.2 (af aj _ _ h.2.1.2.2.2.1)))))))
@[go_sem] theorem Gv (s:Int) (l:List Int) (s2:Int) (l2:List Int) (s3:Int) (l3:List Int) (s4:Int) (l4:List Int) (hc:l.length≤1000000∧l2.length≤1000000∧l3.length≤1000000∧l4.length≤1000000):l8 [.agg [.int .i64 s,.sl (l.map aa),.int .i64 s2,.sl (l2.map aa)],.agg [.int .i64 s3,.sl (l3.map aa),.int .i64 s4,.sl (l4.map aa)]]=some (.same (bD (mo ((s,l),(s2,l2)) ((s3,l3),(s4,l4))))):=(aY CQ (s,l,s2,l2,s3,l3,s4,l4)).trans (al hc _)
theorem Om (T:Tab) (aE:T aT=mkE fq) (kj:T dS=mkE xu) (iq:T dF=mkE qd) (s:Int) (l:List Int) (s2:Int) (l2:List Int) (s3:Int) (l3:List Int) (s4:Int) (l4:List Int) (hc:l.length≤1000000∧l2.length≤1000000∧l3.length≤1000000∧l4.length≤1000000) :
  wp T mf_frac_Mul.body (bF mf_frac_Mul.res (.same (bD (mo ((s,l),(s2,l2)) ((s3,l3),(s4,l4)))))) ⟨ax [.dat (.agg [.int .i64 s,.sl (l.map aa),.int .i64 s2,.sl (l2.map aa)]),.dat (.agg [.int .i64 s3,.sl (l3.map aa),.int .i64 s4,.sl (l4.map aa)])],emp⟩:=by
 refine ap ?_;simp only[mf_frac_Mul];obtain⟨hl1,hl2,hl3,hl4⟩:=hc;unfold mo
 by_cases hr:bf ((s,l),(s2,l2))=true
 ·by_cases hr2:bf ((s3,l3),(s4,l4))=true
  ·have m1:=kN (s,l) (s3,l3)
   have m2:=kN (s2,l2) (s4,l4);rw[if_pos hr,if_pos hr2];dsimp only;generalize hM1:gw (s,l) (s3,l3)=M1 at *;generalize hM2:gw (s2,l2) (s4,l4)=M2 at *;obtain⟨⟨a1,a2⟩,e1⟩:=M1;obtain⟨⟨b1,b2⟩,e2⟩:=M2;refine qI ?_
   repeat' (intro h<;>simp only[h,go_sem,go_sem_proc,YP,aE,kj,iq,hl1,hl2,hl3,hl4,hr,hr2,hM1,hM2,m1,m2,dY,bH,bD,ad]<;>try refine qS ?_ ?_)
  ·have hr2:bf ((s3,l3),(s4,l4))=false:=by simpa using hr2
   rw[if_pos hr,if_neg (by simp [hr2])];refine qI ?_
   repeat' (intro h<;>simp only[h,go_sem,go_sem_proc,YP,aE,kj,iq,hl1,hl2,hl3,hl4,hr,hr2,bD,ad,cj,YQ]<;>try refine qS ?_ ?_)
 ·have hr:bf ((s,l),(s2,l2))=false:=by simpa using hr
  rw[if_neg (by simp [hr])];refine qI ?_
  repeat' (intro h<;>simp only[h,go_sem,go_sem_proc,YP,aE,kj,iq,hl1,hl2,hl3,hl4,hr,bD,ad,cj,YQ]<;>try refine qS ?_ ?_)
noncomputable def pU:List Data→Option PRes:=FF (α:=Int × (List Int) × Int × (List Int) × Int × (List Int) × Int × (List Int)) (fun (s,l,s2,l2,s3,l3,s4,l4)=>([.agg [.int .i64 s,.sl (l.map aa),.int .i64 s2,.sl (l2.map aa)],.agg [.int .i64 s3,.sl (l3.map aa),.int .i64 s4,.sl (l4.map aa)]]:List Data)) (fun (s,l,s2,l2,s3,l3,s4,l4)=>aH (l.length≤1000000∧l2.length≤1000000∧l3.length≤1000000∧l4.length≤1000000) (.same (bD (i6 ((s,l),(s2,l2)) ((s3,l3),(s4,l4))))))
theorem C8:∀ a b:Int × (List Int) × Int × (List Int) × Int × (List Int) × Int × (List Int),(fun (s,l,s2,l2,s3,l3,s4,l4)=>([.agg [.int .i64 s,.sl (l.map aa),.int .i64 s2,.sl (l2.map aa)],.agg [.int .i64 s3,.sl (l3.map aa),.int .i64 s4,.sl (l4.map aa)]]:List Data)) a=(fun (s,l,s2,l2,s3,l3,s4,l4)=>([.agg [.int .i64 s,.sl (l.map aa),.int .i64 s2,.sl (l2.map aa)],.agg [.int .i64 s3,.sl (l3.map aa),.int .i64 s4,.sl (l4.map aa)]]:List Data)) b→a=b:=by
  rintro⟨s1,l1,s21,l21,s31,l31,s41,l41⟩ ⟨s2,l2,s22,l22,s32,l32,s42,l42⟩ h;simp only[List.cons.injEq,Data.agg.injEq,Data.int.injEq,Data.sl.injEq] at h;exact YO h.1.1.2 (YO (af aj _ _ h.1.2.1) (YO h.1.2.2.1.2 (YO (af aj _ _ h.1.2.2.2.1) (YO h.2.1.1.2 (YO (af aj _ _ h.2.1.2.1) (YO h.2.1.2.2.1.2 (af aj _ _ h.2.1.2.2.2.1)))))))
@[go_sem] theorem GJ (s:Int) (l:List Int) (s2:Int) (l2:List Int) (s3:Int) (l3:List Int) (s4:Int) (l4:List Int) (hc:l.length≤1000000∧l2.length≤1000000∧l3.length≤1000000∧l4.length≤1000000):pU [.agg [.int .i64 s,.sl (l.map aa),.int .i64 s2,.sl (l2.map aa)],.agg [.int .i64 s3,.sl (l3.map aa),.int .i64 s4,.sl (l4.map aa)]]=some (.same (bD (i6 ((s,l),(s2,l2)) ((s3,l3),(s4,l4))))):=(aY C8 (s,l,s2,l2,s3,l3,s4,l4)).trans (al hc _)
theorem PM (T:Tab) (aE:T aT=mkE fq) (kj:T dS=mkE xu) (iq:T dF=mkE qd) (s:Int) (l:List Int) (s2:Int) (l2:List Int) (s3:Int) (l3:List Int) (s4:Int) (l4:List Int) (hc:l.length≤1000000∧l2.length≤1000000∧l3.length≤1000000∧l4.length≤1000000) :
  wp T mf_frac_Div.body (bF mf_frac_Div.res (.same (bD (i6 ((s,l),(s2,l2)) ((s3,l3),(s4,l4)))))) ⟨ax [.dat (.agg [.int .i64 s,.sl (l.map aa),.int .i64 s2,.sl (l2.map aa)]),.dat (.agg [.int .i64 s3,.sl (l3.map aa),.int .i64 s4,.sl (l4.map aa)])],emp⟩:=by
 refine ap ?_;simp only[mf_frac_Div];obtain⟨hl1,hl2,hl3,hl4⟩:=hc;unfold i6
 by_cases hr:bf ((s,l),(s2,l2))=true
 ·by_cases hr2:bf ((s3,l3),(s4,l4))=true
  ·rw[if_pos hr,if_pos hr2]
   dsimp only;rcases h0:(s3==0)
   ·have m1:=kN (s,l) (s4,l4)
    have m2:=kN (s2,l2) (s3,l3);rw[if_neg (by simp)];generalize hM1:gw (s,l) (s4,l4)=M1 at *;generalize hM2:gw (s2,l2) (s3,l3)=M2 at *;obtain⟨⟨a1,a2⟩,e1⟩:=M1;obtain⟨⟨b1,b2⟩,e2⟩:=M2;refine qI ?_
    repeat' (intro h<;>simp only[h,go_sem,go_sem_proc,YP,aE,kj,iq,hl1,hl2,hl3,hl4,hr,hr2,h0,hM1,hM2,m1,m2,dY,bH,bD,ad]<;>try refine qS ?_ ?_)
   ·rw[if_pos rfl]
    refine qI ?_
    repeat' (intro h<;>simp only[h,go_sem,go_sem_proc,YP,aE,kj,iq,hl1,hl2,hl3,hl4,hr,hr2,h0,bD,ad,cj,YQ]<;>try refine qS ?_ ?_)
  ·have hr2:bf ((s3,l3),(s4,l4))=false:=by simpa using hr2
   rw[if_pos hr,if_neg (by simp [hr2])];refine qI ?_
   repeat' (intro h<;>simp only[h,go_sem,go_sem_proc,YP,aE,kj,iq,hl1,hl2,hl3,hl4,hr,hr2,bD,ad,cj,YQ]<;>try refine qS ?_ ?_)
 ·have hr:bf ((s,l),(s2,l2))=false:=by simpa using hr
  rw[if_neg (by simp [hr])];refine qI ?_
  repeat' (intro h<;>simp only[h,go_sem,go_sem_proc,YP,aE,kj,iq,hl1,hl2,hl3,hl4,hr,bD,ad,cj,YQ]<;>try refine qS ?_ ?_)
def qD (c:Bool) (v:Rat):aG × Int:=if c=true then (ah v,0) else (cj,6)
def okZ (z:Int):Bool:=decide (z.natAbs<LIM)
def ia (x y:Rat):Bool:=okZ (x.num*y.den)&&(okZ (y.num*x.den)&&(okZ (x.num*y.den+y.num*x.den)&&okZ ((x.den:Int)*y.den)))
def qM (x y:Rat):Bool:=okZ (x.num*y.num)&&okZ ((x.den:Int)*y.den)
def nZ (x y:Rat):Bool:=okZ (x.num*y.den)&&okZ ((x.den:Int)*y.num)
theorem iP {z:Int} (h:okZ z=true):lz z=(aS z,0):=if_pos (by simpa [okZ] using h)
theorem jM {z:Int} (h:okZ z=false):lz z=((0,[]),6):=if_neg (by simpa [okZ] using h)
theorem gX {z:Int} (h:okZ z=true):z.natAbs<LIM:=by simpa [okZ] using h
theorem KL {a b c d:Int} (ha:a.natAbs<LIM) (hb:b.natAbs<LIM) (hc:c.natAbs<LIM) (hd:d.natAbs<LIM) :
  vG (aS a) (aS b) (aS c) (aS d)=if (okZ (a*b)&&(okZ (c*d)&&okZ (a*b+c*d)))=true then (aS (a*b+c*d),0) else ((0,[]),6):=by
 unfold vG;rw[jR ha hb,jR hc hd];rcases h1:okZ (a*b)
 ·rw[jM h1];rfl
 ·rw[iP h1]
  rcases h2:okZ (c*d)
  ·rw[jM h2];rfl
  ·rw[iP h2]
   show qH (aS (a*b)) (aS (c*d))=_;rw[zE (gX h1) (gX h2)];rcases h3:okZ (a*b+c*d)
   ·rw[jM h3];rfl
   ·rw[iP h3];rfl
theorem pM (x y:Rat):ZD (x.num*y.den+y.num*x.den) ((x.den:Int)*y.den)=x+y:=by
 rw[←Rat.divInt_add_divInt _ _ (by have:=den_pos x;omega) (by have:=den_pos y;omega),ZE,ZE]
theorem pC (x y:Rat):ZD (x.num*y.num) ((x.den:Int)*y.den)=x*y:=by
 rw[←ZM,ZE,ZE]
theorem pI (x y:Rat):ZD (x.num*y.den) ((x.den:Int)*y.num)=x / y:=by
 rw[←ZM,ZE,←Rat.inv_divInt,ZE]
 rfl
theorem kM (x:Rat):(x.den:Int)≠0:=by have:=den_pos x;omega
theorem ua {x y:Rat} (hx:cr x) (hy:cr y):s9 (ah x) (ah y)=qD (ia x y) (x+y):=by
 unfold s9;rw[if_pos (fa hx),if_pos (fa hy)]
 show nD (vG (aS x.num) (aS y.den) (aS y.num) (aS x.den)) (gw (aS x.den) (aS y.den))=_;rw[KL hx.1 (uT hy) hy.1 (uT hx),jR (uT hx) (uT hy)];unfold ia;rcases h1:okZ (x.num*y.den)
 ·rfl
 ·rcases h2:okZ (y.num*x.den)
  ·rfl
  ·rcases h3:okZ (x.num*y.den+y.num*x.den)
   ·rfl
   ·rcases h4:okZ ((x.den:Int)*y.den)
    ·rw[jM h4];rfl
    ·rw[iP h4]
     show fW (aS (x.num*y.den+y.num*x.den)) (aS ((x.den:Int)*y.den))=(ah (x+y),0)
     rw[i9 (gX h3) (gX h4) (ZN (kM x) (kM y)),pM]
theorem Jp {x:Rat} (h:cr x):cr (-x):=⟨by rw[Rat.neg_num];have:=h.1;omega,by rw[Rat.neg_den];exact h.2⟩
theorem rg {x y:Rat} (hx:cr x) (hy:cr y):nH (ah x) (ah y)=qD (ia x (-y)) (x-y):=by
 unfold nH;rw[if_pos (fa hx),if_pos (fa hy)]
 have:(jd (ah y).1,(ah y).2)=ah (-y):=by
  unfold ah;have:jd (aS y.num)=aS (-y.num):=by unfold jd;rw[if_pos (bP hy.1),aU]
  dsimp only;rw[this];rfl
 rw[this,ua hx (Jp hy),ZO]
theorem vf {x y:Rat} (hx:cr x) (hy:cr y):mo (ah x) (ah y)=qD (qM x y) (x*y):=by
 unfold mo;rw[if_pos (fa hx),if_pos (fa hy)]
 show nD (gw (aS x.num) (aS y.num)) (gw (aS x.den) (aS y.den))=_;rw[jR hx.1 hy.1,jR (uT hx) (uT hy)];unfold qM;rcases h1:okZ (x.num*y.num)
 ·rw[jM h1];rfl
 ·rw[iP h1]
  rcases h4:okZ ((x.den:Int)*y.den)
  ·rw[jM h4];rfl
  ·rw[iP h4]
   show fW (aS (x.num*y.num)) (aS ((x.den:Int)*y.den))=(ah (x*y),0)
   rw[i9 (gX h1) (gX h4) (ZN (kM x) (kM y)),pC]
theorem qC {x y:Rat} (hx:cr x) (hy:cr y) (h0:y≠0):i6 (ah x) (ah y)=qD (nZ x y) (x / y):=by
 unfold i6;rw[if_pos (fa hx),if_pos (fa hy)];have hn:y.num≠0:=fun h=>h0 (Rat.num_eq_zero.1 h)
 have:((ah y).1.1==0)=false:=by
  show (y.num.sign==0)=false
  simpa using hn
 rw[this,if_neg (by simp)]
 show nD (gw (aS x.num) (aS y.den)) (gw (aS x.den) (aS y.num))=_;rw[jR hx.1 (uT hy),jR (uT hx) hy.1];unfold nZ;rcases h1:okZ (x.num*y.den)
 ·rw[jM h1];rfl
 ·rw[iP h1]
  rcases h4:okZ ((x.den:Int)*y.num)
  ·rw[jM h4];rfl
  ·rw[iP h4]
   show fW (aS (x.num*y.den)) (aS ((x.den:Int)*y.num))=(ah (x / y),0)
   rw[i9 (gX h1) (gX h4) (ZN (kM x) hn),pI]
theorem Mz {x y:Rat} (h:ia x y=true):cr (x+y):=by
 unfold ia at h;simp only[ZF] at h;rw[←pM];exact nA (gX h.2.2.1) (gX h.2.2.2)
theorem EA {x y:Rat} (h:ia x (-y)=true):cr (x-y):=by rw[ZO];exact Mz h
theorem Fc {x y:Rat} (h:qM x y=true):cr (x*y):=by
 unfold qM at h;simp only[ZF] at h;rw[←pC];exact nA (gX h.1) (gX h.2)
theorem Nk {x y:Rat} (h:nZ x y=true):cr (x / y):=by
 unfold nZ at h;simp only[ZF] at h;rw[←pI];exact nA (gX h.1) (gX h.2)
def kK (x y:Rat):Int:=(x.num*y.den-y.num*x.den).sign
def lm (a b:aG):Int:=if bf a=true then (if bf b=true then (gV a.1*gV b.2-gV b.1*gV a.2).sign else 0) else 0
theorem qU {x y:Rat} (hx:cr x) (hy:cr y):lm (ah x) (ah y)=kK x y:=by
 unfold lm;rw[if_pos (fa hx),if_pos (fa hy)];unfold ah kK;rw[aU,aU,aU,aU]
theorem cmpQ_zero {x y:Rat}:kK x y=0↔x=y:=by
 unfold kK;rw[YR,Rat.eq_iff_mul_eq_mul];omega
theorem qJ {p q:Int} (hq:0<q):0≤p.fmod q∧p.fmod q<q:=⟨Int.fmod_nonneg_of_pos _ hq,Int.fmod_lt_of_pos _ hq⟩
theorem Kp {p q r s:Int} (hq:0<q) (hs:0<s) (h:p.fdiv q<r.fdiv s):p*s-r*q<0:=by
 have e1:=ZP p q;have e2:=ZP r s;have b1:=qJ (p:=p) hq;have b2:=qJ (p:=r) hs;generalize p.fdiv q=x at *;generalize r.fdiv s=y at *;generalize p.fmod q=u at *;generalize r.fmod s=v at *;subst e1 e2;have h1:q*s*(x+1)≤q*s*y:=Int.mul_le_mul_of_nonneg_left (by omega) (Zm (Int.mul_pos hq hs));have h2:u*s<q*s:=Int.mul_lt_mul_of_pos_right b1.2 hs;have h3:0≤v*q:=Zj b2.1 (by omega);have e3:(q*x+u)*s-(s*y+v)*q=q*s*(x+1)-q*s*y+(u*s-q*s)-v*q:=by grind
 omega
theorem PF {p q r s:Int} (h:p.fdiv q=r.fdiv s):p*s-r*q=p.fmod q*s-r.fmod s*q:=by
 have e1:=ZP p q;have e2:=ZP r s;rw[h] at e1;generalize r.fdiv s=y at *;generalize p.fmod q=u at *;generalize r.fmod s=v at *;subst e1 e2;grind
theorem wk (a b:Int):(a-b).sign = -(b-a).sign:=by rw[←YV];congr 1;omega
theorem w8 {p q:Int} (hp:p.natAbs<LIM) (hq:q.natAbs<LIM) (h0:0<q) :
  jv (p.sign,dg p.natAbs) (q.sign,dg q.natAbs)=(((p.fdiv q).sign,dg (p.fdiv q).natAbs),((p.fmod q).sign,dg (p.fmod q).natAbs),0):=lg hp hq (by omega)
noncomputable def dt:List Data→Option PRes:=FF (α:=Int × (List Int) × Int × (List Int) × Int × (List Int) × Int × (List Int)) (fun (s,l,s2,l2,s3,l3,s4,l4)=>([.agg [.int .i64 s,.sl (l.map aa),.int .i64 s2,.sl (l2.map aa)],.agg [.int .i64 s3,.sl (l3.map aa),.int .i64 s4,.sl (l4.map aa)]]:List Data)) (fun (s,l,s2,l2,s3,l3,s4,l4)=>aH (l.length≤1000000∧l2.length≤1000000∧l3.length≤1000000∧l4.length≤1000000) (.same (.int .i64 (lm ((s,l),(s2,l2)) ((s3,l3),(s4,l4))))))
theorem ul:∀ a b:Int × (List Int) × Int × (List Int) × Int × (List Int) × Int × (List Int),(fun (s,l,s2,l2,s3,l3,s4,l4)=>([.agg [.int .i64 s,.sl (l.map aa),.int .i64 s2,.sl (l2.map aa)],.agg [.int .i64 s3,.sl (l3.map aa),.int .i64 s4,.sl (l4.map aa)]]:List Data)) a=(fun (s,l,s2,l2,s3,l3,s4,l4)=>([.agg [.int .i64 s,.sl (l.map aa),.int .i64 s2,.sl (l2.map aa)],.agg [.int .i64 s3,.sl (l3.map aa),.int .i64 s4,.sl (l4.map aa)]]:List Data)) b→a=b:=by
  rintro⟨s1,l1,s21,l21,s31,l31,s41,l41⟩ ⟨s2,l2,s22,l22,s32,l32,s42,l42⟩ h;simp only[List.cons.injEq,Data.agg.injEq,Data.int.injEq,Data.sl.injEq] at h;exact YO h.1.1.2 (YO (af aj _ _ h.1.2.1) (YO h.1.2.2.1.2 (YO (af aj _ _ h.1.2.2.2.1) (YO h.2.1.1.2 (YO (af aj _ _ h.2.1.2.1) (YO h.2.1.2.2.1.2 (af aj _ _ h.2.1.2.2.2.1)))))))
@[go_sem] theorem pm (s:Int) (l:List Int) (s2:Int) (l2:List Int) (s3:Int) (l3:List Int) (s4:Int) (l4:List Int) (hc:l.length≤1000000∧l2.length≤1000000∧l3.length≤1000000∧l4.length≤1000000):dt [.agg [.int .i64 s,.sl (l.map aa),.int .i64 s2,.sl (l2.map aa)],.agg [.int .i64 s3,.sl (l3.map aa),.int .i64 s4,.sl (l4.map aa)]]=some (.same (.int .i64 (lm ((s,l),(s2,l2)) ((s3,l3),(s4,l4))))):=(aY ul (s,l,s2,l2,s3,l3,s4,l4)).trans (al hc _)
theorem Df (T:Tab) (aE:T aT=mkE fq) (ki:T iB=mkE Fk) (fX:T kW=mkE rP) (s:Int) (l:List Int) (s2:Int) (l2:List Int) (s3:Int) (l3:List Int) (s4:Int) (l4:List Int) (hc:l.length≤1000000∧l2.length≤1000000∧l3.length≤1000000∧l4.length≤1000000) :
  wp T mf_frac_Compare.body (bF mf_frac_Compare.res (.same (.int .i64 (lm ((s,l),(s2,l2)) ((s3,l3),(s4,l4)))))) ⟨ax [.dat (.agg [.int .i64 s,.sl (l.map aa),.int .i64 s2,.sl (l2.map aa)]),.dat (.agg [.int .i64 s3,.sl (l3.map aa),.int .i64 s4,.sl (l4.map aa)])],emp⟩:=by
 refine ap ?_;simp only[mf_frac_Compare];obtain⟨hl1,hl2,hl3,hl4⟩:=hc
 by_cases hr:bf ((s,l),(s2,l2))=true
 ·by_cases hr2:bf ((s3,l3),(s4,l4))=true
  ·obtain⟨x,hx,e⟩:=(kO _).1 hr
   obtain⟨y,hy,e2⟩:=(kO _).1 hr2;have hm:lm ((s,l),(s2,l2)) ((s3,l3),(s4,l4))=kK x y:=by rw[e,e2,qU hx hy]
   rw[hm];clear hm;have ea:(s,l)=aS x.num:=congrArg ZL e;have eb:(s2,l2)=aS x.den:=congrArg Prod.snd e;have ec:(s3,l3)=aS y.num:=congrArg ZL e2;have ed:(s4,l4)=aS y.den:=congrArg Prod.snd e2;clear e e2;have hxd:=uT hx;have hyd:=uT hy;have hx0:=den_pos x;have hy0:=den_pos y;have hxn:=hx.1;have hyn:=hy.1;unfold kK;generalize x.num=P at *;generalize (x.den:Int)=Q at *;generalize y.num=R at *;generalize (y.den:Int)=S at *
   cases ea
   cases eb
   cases ec
   cases ed;simp only[go_sem,go_sem_proc,YP,aE,ki,fX,hl1,hl2,hl3,hl4,hr,hr2];refine ae [5,6,7,8] [135002,135003] (fun ((sg,p,q,r,t):Int × Int × Int × Int × Int) tm mem=>(sg=1∨sg = -1)∧0<q∧0<t∧p.natAbs<LIM∧q.natAbs<LIM∧r.natAbs<LIM∧t.natAbs<LIM∧(P*S-R*Q).sign=sg*(p*t-r*q).sign∧tm 9 = .dat (.int .i64 sg)∧mem 135005=some (0,[.dat (.int .i64 p.sign),.dat (.sl ((dg p.natAbs).map aa))])∧mem 135006=some (0,[.dat (.int .i64 q.sign),.dat (.sl ((dg q.natAbs).map aa))])∧mem 135007=some (0,[.dat (.int .i64 r.sign),.dat (.sl ((dg r.natAbs).map aa))])∧mem 135008=some (0,[.dat (.int .i64 t.sign),.dat (.sl ((dg t.natAbs).map aa))])) (fun (_,_,q,_,_)=>q.natAbs) (1,P,Q,R,S) (by refine⟨.inl rfl,hx0,hy0,hxn,hxd,hyn,hyd,by rw[YF],rfl,?_,?_,?_,?_⟩<;>rfl) ?_
   intro vs ms hvs hms;simp only[go_sem,go_sem_proc,YP,aE,ki,fX] at hvs hms;subst hvs hms;rintro⟨sg,p,q,r,t⟩ tm mem hk hm ⟨hsg,hq0,ht0,hp,hq,hrr,ht,hval,h9,m5,m6,m7,m8⟩;simp only[go_sem,go_sem_proc,YP,aE,ki,fX,List.cons.injEq] at hk hm;obtain⟨h5,h6,h7,h8⟩:=hk;have lp:=eZ hp;have lq:=eZ hq;have lr:=eZ hrr;have lt:=eZ ht;have hd1:=w8 hp hq hq0;have hd2:=w8 hrr ht ht0;have bx:=mn (y:=q) hp (by omega);have by':=mn (y:=t) hrr (by omega)
   have lx:=eZ bx;have ly:=eZ by'
   have hcm:tT ((p.fdiv q).sign,dg (p.fdiv q).natAbs) ((r.fdiv t).sign,dg (r.fdiv t).natAbs)=f8 (p.fdiv q) (r.fdiv t):=Bf bx by'
   have bu:=qJ (p:=p) hq0;have bv:=qJ (p:=r) ht0;have hneg1:IntKind.i64.wrap (0-sg) = -sg:=by rcases hsg with rfl | rfl<;>rfl
   rcases ZJ (p.fdiv q) (r.fdiv t) with hlt | heq | hgt
   ·have hv:=Kp hq0 ht0 hlt
    rw[qT hlt] at hcm;rw[hval,Y5 hv];have hw:IntKind.i64.wrap (sg * -1)=sg * -1:=by rcases hsg with rfl | rfl<;>rfl
    refine qI ?_
    repeat' (intro h<;>simp only[h,go_sem,go_sem_proc,YP,aE,ki,fX,h5,h6,h7,h8,h9,hm,m5,m6,m7,m8,lp,lq,lr,lt,lx,ly,hd1,hd2,hcm,hw,dm,bH,show ((-1:Int)==0)=false from rfl]<;>try refine qS ?_ ?_)
   ·have hv:=PF heq
    rw[heq,tu] at hcm
    have hw2:∀ a:Int,-1≤a→a≤1→IntKind.i64.wrap (sg*a)=sg*a:=by
     intro a h1 h2;rcases hsg with rfl | rfl<;>exact an _ (by omega) (by omega)
    rw[heq] at hd1 lx;have bul:(p.fmod q).natAbs<LIM:=by omega
    have bvl:(r.fmod t).natAbs<LIM:=by omega
    rw[hv] at hval;generalize p.fmod q=u at *;generalize r.fmod t=v at *
    by_cases hu:u=0
    ·subst hu
     have hs:(0*t-v*q).sign=(0:Int).sign-v.sign:=by
      rw[YG,ZQ,YV,YS,YW hq0,YI,ZR,ZQ]
     rw[hs] at hval;rw[hval];have h3:=ej v;have hw0:IntKind.i64.wrap ((0:Int).sign-v.sign)=(0:Int).sign-v.sign:=an _ (by rw[ZR];omega) (by rw[ZR];omega);have hw:=hw2 ((0:Int).sign-v.sign) (by rw[ZR];omega) (by rw[ZR];omega);refine qI ?_
     repeat' (intro h<;>simp only[h,go_sem,go_sem_proc,YP,aE,ki,fX,h5,h6,h7,h8,h9,hm,m5,m6,m7,m8,lp,lq,lr,lt,lx,ly,hd1,hd2,hcm,hw,hw0,dm,bH,show ((0:Int)==0)=true from rfl,show ((0:Int).sign==0)=true from rfl]<;>try refine qS ?_ ?_)
    ·have hu0:0<u:=by omega
     have hu1:(u.sign==0)=false:=by simpa using hu
     by_cases hv0:v=0
     ·subst hv0
      have hs:(u*t-0*q).sign=u.sign-(0:Int).sign:=by
       rw[YG,ZS,YS,YW ht0,YI,ZR,ZS]
      rw[hs] at hval;rw[hval];have h3:=ej u;have hw0:IntKind.i64.wrap (u.sign-(0:Int).sign)=u.sign-(0:Int).sign:=an _ (by rw[ZR];omega) (by rw[ZR];omega);have hw:=hw2 (u.sign-(0:Int).sign) (by rw[ZR];omega) (by rw[ZR];omega);refine qI ?_
      repeat' (intro h<;>simp only[h,go_sem,go_sem_proc,YP,aE,ki,fX,h5,h6,h7,h8,h9,hm,m5,m6,m7,m8,lp,lq,lr,lt,lx,ly,hd1,hd2,hcm,hw,hw0,hu1,dm,bH,show ((0:Int)==0)=true from rfl,show ((0:Int).sign==0)=true from rfl]<;>try refine qS ?_ ?_)
     ·have hv1:(v.sign==0)=false:=by simpa using hv0
      refine qI ?_
      repeat' (intro h<;>simp only[h,go_sem,go_sem_proc,YP,aE,ki,fX,h5,h6,h7,h8,h9,hm,m5,m6,m7,m8,lp,lq,lr,lt,lx,ly,hd1,hd2,hcm,hu1,hv1,hneg1,dm,bH,show ((0:Int)==0)=true from rfl]<;>try refine qS ?_ ?_)
      refine⟨(-sg,q,u,t,v),by dsimp only;omega,by dsimp only;omega,by dsimp only;omega,by dsimp only;omega,by dsimp only;omega,by dsimp only;omega,by dsimp only;omega,by dsimp only;omega,?_,by simp [go_sem],by simp [go_sem],by simp [go_sem],by simp [go_sem],by simp [go_sem]⟩
      dsimp only;rw[hval,wk (q*v) (t*u),Int.neg_mul_neg,ZB t u,ZB q v]
   ·have hv:=Kp ht0 hq0 hgt
    rw[p8 hgt] at hcm;rw[hval,wk,Y5 hv];have hw:IntKind.i64.wrap (sg*1)=sg * -(-1):=by rcases hsg with rfl | rfl<;>rfl
    refine qI ?_
    repeat' (intro h<;>simp only[h,go_sem,go_sem_proc,YP,aE,ki,fX,h5,h6,h7,h8,h9,hm,m5,m6,m7,m8,lp,lq,lr,lt,lx,ly,hd1,hd2,hcm,hw,dm,bH,show ((1:Int)==0)=false from rfl]<;>try refine qS ?_ ?_)
  ·have hr2:bf ((s3,l3),(s4,l4))=false:=by simpa using hr2
   have hm:lm ((s,l),(s2,l2)) ((s3,l3),(s4,l4))=0:=by unfold lm;rw[if_pos hr,if_neg (by simp [hr2])]
   rw[hm];refine qI ?_
   repeat' (intro h<;>simp only[h,go_sem,go_sem_proc,YP,aE,ki,fX,hl1,hl2,hl3,hl4,hr,hr2]<;>try refine qS ?_ ?_)
 ·have hr:bf ((s,l),(s2,l2))=false:=by simpa using hr
  have hm:lm ((s,l),(s2,l2)) ((s3,l3),(s4,l4))=0:=by unfold lm;rw[if_neg (by simp [hr])]
  rw[hm];refine qI ?_
  repeat' (intro h<;>simp only[h,go_sem,go_sem_proc,YP,aE,ki,fX,hl1,hl2,hl3,hl4,hr]<;>try refine qS ?_ ?_)
end Go.Mini
