/- A part of the proof. -/
import Derived.Test.YtdbkjjoedjfmpaaGreatM05
import Derived.Test.YtdbkjjoedjfmpaaGreatM04
set_option linter.unusedSimpArgs false
set_option linter.unusedVariables false
open Nat renaming div_add_mod → Yx, eq_zero_or_pos → Yy, mod_lt → Yz, zero_mod → YJ, mul_le_mul_right → YK, div_le_self → YL, le_of_lt → YT, pos_of_ne_zero → YZ, reduceMul → Zw, gcd → ZC
open Int renaming ofNat_sub → YA, natCast_add → YB, mul_neg → YC, mul_add → YD, neg_mul → YE, one_mul → YF, zero_mul → YG, mul_zero → YH, mul_one → YI, natAbs_mul → YM, natAbs_natCast → YN, sign_eq_zero_iff_zero → YR, sign_mul → YS, natAbs_neg → YU, sign_neg → YV, sign_eq_one_of_pos → YW, sign_sign → YX, sign_eq_neg_one_of_neg → Y5, natCast_zero → Y6, cast_ofNat_Int → Y7, mul_nonneg → Zj, le_of_lt → Zm, pow_pos → Zr, reducePow → Zy, toNat_natCast → ZA, mul_comm → ZB, fdiv_eq_ediv_of_nonneg → ZH, lt_trichotomy → ZJ, mul_ne_zero → ZN, mul_fdiv_add_fmod → ZP, zero_sub → ZQ, sign_zero → ZR, sub_zero → ZS
open Prod renaming ext → YO, ext_iff → Y2, fst → ZL
open Bool renaming false_eq_true → YP, and_false → Y0, false_and → Y1, and_eq_true → ZF, true_and → ZG
open List renaming map_nil → YQ, length_map → YY, append_nil → Y4, take_length → Y8, length → Y9, length_append → Zd, append_assoc → Zg, getElem?_map → Zz
open Decidable renaming em → Y3
open Rat renaming divInt → ZD, num_divInt_den → ZE, neg_divInt_neg → ZK, divInt_mul_divInt → ZM, sub_eq_add_neg → ZO
namespace Go.Mini
open Go
set_option maxRecDepth 10000
set_option maxHeartbeats 2000000
def jo (a b:Raw):Raw × Raw × Int :=
 if (aJ a&&aJ b)=true then
  if gy b=0 then ((0,[]),(0,[]),15) else (aP ((gy a).fdiv (gy b)),aP ((gy a).fmod (gy b)),0)
 else ((0,[]),(0,[]),1)
def fb (x:Raw × Raw × Int):Data:=.tup [.agg (bY x.1),.agg (bY x.2.1),.int .i64 x.2.2]
theorem Fe {x y q r:Int} (h:r+y*q=x) (hr:(0≤r∧r<y)∨(y<r∧r≤0)):x.fdiv y=q∧x.fmod y=r:=by
 rcases hr with ⟨h1,h2⟩ | ⟨h1,h2⟩
 ·exact (Int.fdiv_fmod_unique (by omega)).2 ⟨h,h1,h2⟩
 ·exact (Int.fdiv_fmod_unique' (by omega)).2 ⟨h,h1,h2⟩
theorem oE {x y:Int} (h:x.sign*y.sign<0) (hm:x.natAbs % y.natAbs≠0) :
  x.fdiv y = -((x.natAbs / y.natAbs+1:Nat):Int)∧x.fmod y=y.sign*((y.natAbs-x.natAbs % y.natAbs:Nat):Int):=by
 have h2:=Yx x.natAbs y.natAbs;generalize hQ:x.natAbs / y.natAbs=Q at *;generalize hR:x.natAbs % y.natAbs=R at *
 have hy:0<y.natAbs:=by
  rcases Yy y.natAbs with h0 | h0
  ·rw[Int.natAbs_eq_zero.1 h0] at h;simp at h
  ·exact h0
 have hlt:R<y.natAbs:=by rw[←hR];exact Yz _ hy
 have h2':(y.natAbs:Int)*Q+R=x.natAbs:=by exact_mod_cast h2
 refine Fe ?_ ?_
 ·rcases cr x with ⟨e,h1⟩ | ⟨e,h1⟩ | ⟨e,h1⟩<;>rcases cr y with ⟨e',h3⟩ | ⟨e',h3⟩ | ⟨e',h3⟩<;>rw[e,e'] at h<;>first | omega | rw[e']
  ·rw[YA (by omega),YB,YC,YD]
   have:(y.natAbs:Int) = -y:=by omega
   rw[this] at h2' ⊢;rw[YE] at h2';omega
  ·rw[YA (by omega),YB,YC,YD]
   have:(y.natAbs:Int)=y:=by omega
   rw[this] at h2' ⊢;omega
 ·rcases cr y with ⟨e',h3⟩ | ⟨e',h3⟩ | ⟨e',h3⟩<;>rw[e']<;>omega
theorem lh {x y:Int} (hy:y≠0) (h:¬ (x.sign*y.sign<0∧x.natAbs % y.natAbs≠0)) :
  x.fdiv y=x.sign*y.sign*((x.natAbs / y.natAbs:Nat):Int)∧x.fmod y=x.sign*((x.natAbs % y.natAbs:Nat):Int):=by
 have h2:=Yx x.natAbs y.natAbs;have hlt:x.natAbs % y.natAbs<y.natAbs:=Yz _ (by omega);generalize hQ:x.natAbs / y.natAbs=Q at *;generalize hR:x.natAbs % y.natAbs=R at *;have h2':(y.natAbs:Int)*Q+R=x.natAbs:=by exact_mod_cast h2
 refine Fe ?_ ?_
 ·rcases cr x with ⟨e,h1⟩ | ⟨e,h1⟩ | ⟨e,h1⟩<;>rcases cr y with ⟨e',h3⟩ | ⟨e',h3⟩ | ⟨e',h3⟩<;>first | omega | (rw[e,e'])
  ·rw[show (y.natAbs:Int)=y by omega] at h2';simp only[YF];omega
  ·rw[show (y.natAbs:Int) = -y by omega,YE] at h2';simp only[YF,YE,YC];omega
  ·simp only[YG,YH];omega
  ·simp only[YG,YH];omega
  ·rw[show (y.natAbs:Int)=y by omega] at h2';simp only[YF,YE,YC,YI];omega
  ·rw[show (y.natAbs:Int) = -y by omega,YE] at h2';simp only[YF,YE,YC,Int.neg_neg];omega
 ·have hR0:x.natAbs=0→R=0:=by
   intro h0;rw[←hR,h0,YJ]
  rcases cr x with ⟨e,h1⟩ | ⟨e,h1⟩ | ⟨e,h1⟩<;>rcases cr y with ⟨e',h3⟩ | ⟨e',h3⟩ | ⟨e',h3⟩<;>rw[e,e'] at h<;>rw[e]<;>omega
theorem mh {x y:Int} (hx:x.natAbs<LIM) (hy0:y≠0):(x.fdiv y).natAbs<LIM:=by
 by_cases h:x.sign*y.sign<0∧x.natAbs % y.natAbs≠0
 ·have hf:=(oE h.1 h.2).1
  have h2:=Yx x.natAbs y.natAbs
  have:x.natAbs / y.natAbs+1≤x.natAbs:=by
   have hy2:2≤y.natAbs:=by
    rcases Nat.lt_or_ge y.natAbs 2 with h0 | h0
    ·have:y.natAbs=1:=by omega
     rw[this,Nat.mod_one] at h;exact absurd rfl h.2
    ·exact h0
   have h3:2*(x.natAbs / y.natAbs)≤y.natAbs*(x.natAbs / y.natAbs):=YK _ hy2;omega
  generalize x.natAbs / y.natAbs=Q at *;omega
 ·have hf:=(lh hy0 h).1
  have h3:x.natAbs / y.natAbs≤x.natAbs:=YL _ _
  have h4:(x.fdiv y).natAbs≤x.natAbs / y.natAbs:=by
   rw[hf,YM,YM,YN];have h1:x.sign.natAbs≤1:=by have:=dW x;omega;have h2:y.sign.natAbs≤1:=by have:=dW y;omega;have:=Nat.mul_le_mul h1 h2;have:=YK (x.natAbs / y.natAbs) this;omega
  omega
theorem zV {x y:Int} (hy:y.natAbs<LIM) (hy0:y≠0):(x.fmod y).natAbs<LIM:=by
 by_cases h:x.sign*y.sign<0∧x.natAbs % y.natAbs≠0
 ·have hf:=(oE h.1 h.2).2
  rcases cr y with ⟨e',h3⟩ | ⟨e',h3⟩ | ⟨e',h3⟩<;>rw[e'] at hf<;>omega
 ·have hf:=(lh hy0 h).2
  have hlt:x.natAbs % y.natAbs<y.natAbs:=Yz _ (by omega);rcases cr x with ⟨e',h3⟩ | ⟨e',h3⟩ | ⟨e',h3⟩<;>rw[e'] at hf<;>omega
theorem kv {x y:Int} (hx:x.natAbs<LIM) (hy:y.natAbs<LIM) (h0:y≠0):jo (aP x) (aP y)=(aP (x.fdiv y),aP (x.fmod y),0):=by
 unfold jo;rw[bF hx,bF hy,aR,aR,if_pos (by rfl),if_neg h0]
noncomputable def EN:List Data→Option PRes:=FF (α:=Int × (List Int) × Int × (List Int)) (fun (s,l,s2,l2)=>([.agg [.int .i64 s,.sl (l.map aa)],.agg [.int .i64 s2,.sl (l2.map aa)]]:List Data)) (fun (s,l,s2,l2)=>aG (l.length≤1000000∧l2.length≤1000000) (.same (fb (jo (s,l) (s2,l2)))))
theorem Hy:∀ a b:Int × (List Int) × Int × (List Int),(fun (s,l,s2,l2)=>([.agg [.int .i64 s,.sl (l.map aa)],.agg [.int .i64 s2,.sl (l2.map aa)]]:List Data)) a=(fun (s,l,s2,l2)=>([.agg [.int .i64 s,.sl (l.map aa)],.agg [.int .i64 s2,.sl (l2.map aa)]]:List Data)) b→a=b:=by
  rintro⟨s1,l1,s21,l21⟩ ⟨s2,l2,s22,l22⟩ h;simp only[List.cons.injEq,Data.agg.injEq,Data.int.injEq,Data.sl.injEq] at h;exact YO h.1.1.2 (YO (af aj _ _ h.1.2.1) (YO h.2.1.1.2 (af aj _ _ h.2.1.2.1)))
@[go_sem] theorem Rr (s:Int) (l:List Int) (s2:Int) (l2:List Int) (hc:l.length≤1000000∧l2.length≤1000000):EN [.agg [.int .i64 s,.sl (l.map aa)],.agg [.int .i64 s2,.sl (l2.map aa)]]=some (.same (fb (jo (s,l) (s2,l2)))):=(aV Hy (s,l,s2,l2)).trans (ak hc _)
theorem Sp (T:Tab) (ax:T aY=mkE dX) (ld:T kN=mkE EB) (nz:T kt=mkE Fu) (nv:T jj=mkE Ew) (bj:T bs=mkE jE) (s:Int) (l:List Int) (s2:Int) (l2:List Int) (hc:l.length≤1000000∧l2.length≤1000000) :
  wp T mf_big_Div.body (bt mf_big_Div.res (.same (fb (jo (s,l) (s2,l2))))) ⟨aw [.dat (.agg [.int .i64 s,.sl (l.map aa)]),.dat (.agg [.int .i64 s2,.sl (l2.map aa)])],emp⟩:=by
 refine ao ?_;simp only[mf_big_Div];obtain⟨hl1,hl2⟩:=hc
 by_cases hr:aJ (s,l)=true
 ·by_cases hr2:aJ (s2,l2)=true
  ·obtain⟨x,hx,e⟩:=(be _).1 hr
   obtain⟨y,hy,e2⟩:=(be _).1 hr2
   by_cases hy0:y=0
   ·have hm:jo (s,l) (s2,l2)=((0,[]),(0,[]),15):=by
     rw[e,e2];unfold jo
     rw[bF hx,bF hy,aR,aR,if_pos (by rfl),if_pos hy0]
    rw[hm]
    cases e
    cases e2;have h0:((y.sign:Int)==0)=true:=by rw[hy0];rfl;refine qI ?_
    repeat' (intro h<;>simp only[h,go_sem,go_sem_proc,YP,ax,ld,nz,nv,bj,hr,hr2,hl1,hl2,h0,bY,fb,YQ]<;>try refine qS ?_ ?_)
   ·have hm:jo (s,l) (s2,l2)=(aP (x.fdiv y),aP (x.fmod y),0):=by
     rw[e,e2];exact kv hx hy hy0
    rw[hm];clear hm
    cases e
    cases e2;have hlx:=fv hx;have hly:=fv hy;have hy0':(y.sign==0)=false:=by rw[beq_eq_false_iff_ne,Ne,YR];exact hy0;have hypos:0<y.natAbs:=by omega
    have h1:=dW x;have h2:=dW y;have hp:x.sign*y.sign=(x*y).sign:=(YS x y).symm;have h3:=dW (x*y);have hw:IntKind.i64.wrap (x.sign*y.sign)=x.sign*y.sign:=by rw[hp];exact an _ (by omega) (by omega);have hdiv:=Bs x.natAbs y.natAbs ⟨by omega,by omega,hypos⟩
    simp only[digs] at hdiv;have hq:=mh (y:=y) hx hy0;have hr3:=zV (x:=x) hy hy0;have hlq:x.natAbs / y.natAbs<LIM:=Nat.lt_of_le_of_lt (YL _ _) hx;have hlq':(dg (x.natAbs / y.natAbs)).length≤60:=dg_len.2 hlq;have hlr:x.natAbs % y.natAbs<LIM:=Nat.lt_trans (Yz _ hypos) hy;have hlr':(dg (x.natAbs % y.natAbs)).length≤60:=dg_len.2 hlr
    by_cases hlow:x.sign*y.sign<0∧x.natAbs % y.natAbs≠0
    ·obtain⟨eq,er⟩:=oE hlow.1 hlow.2
     have hne:decide (((dg (x.natAbs % y.natAbs)).length:Int)>0)=true:=by
      have:dg (x.natAbs % y.natAbs)≠[]:=by rw[Ne,mL];exact hlow.2
      have:=List.length_pos_iff.2 this;exact decide_eq_true (by omega)
     have hneg:decide (x.sign*y.sign<0)=true:=decide_eq_true hlow.1;have hd1:dg 1=[1]:=by simp [dg,dgF]
     have hl1d:(dg 1).length=1:=by rw[hd1];rfl
     have hadd:=Bb (x.natAbs / y.natAbs) 1 ⟨by omega,by omega⟩
     simp only[digs,hd1,List.map_cons,YQ,aa] at hadd;have hsub:=uL y.natAbs (x.natAbs % y.natAbs) ⟨by omega,YT (Yz _ hypos)⟩
     simp only[digs] at hsub
     have hla:(dg (x.natAbs / y.natAbs+1)).length≤1000000:=by
      have:(x.natAbs / y.natAbs+1)<LIM:=by rw[eq] at hq;rw[YU,YN] at hq;exact hq
      have:=(dg_len (k:=60)).2 this;omega
     have hlb:(dg (y.natAbs-x.natAbs % y.natAbs)).length≤1000000:=by have:=tk y.natAbs (x.natAbs % y.natAbs);omega
     have hs1:eR (-1) (dg (x.natAbs / y.natAbs+1))=aP (x.fdiv y):=cR (by rw[eq,YU,YN]) fun _=>by rw[eq,YV,YW (show (0:Int)<((x.natAbs / y.natAbs+1:Nat):Int) by exact Int.natCast_pos.2 (Nat.succ_pos _))]
     have hs2:eR y.sign (dg (y.natAbs-x.natAbs % y.natAbs))=aP (x.fmod y):=by
      refine cR ?_ fun hn=>?_
      ·rw[er];rcases cr y with ⟨e',h3⟩ | ⟨e',h3⟩ | ⟨e',h3⟩<;>rw[e']<;>omega
      ·rw[er,YS,YX,YW (show (0:Int)<((y.natAbs-x.natAbs % y.natAbs:Nat):Int) by omega),YI]
     refine qI ?_
     repeat' (intro h<;>simp only[h,go_sem,go_sem_proc,YP,ax,ld,nz,nv,bj,hr,hr2,hl1,hl2,hy0',hw,hdiv,hne,hneg,hadd,hsub,hla,hlb,hs1,hs2,aa,YY,bY,fb,fF]<;>try refine qS ?_ ?_)
    ·obtain⟨eq,er⟩:=lh hy0 hlow
     have hlow':(decide (x.sign*y.sign<0)=true∧decide (((dg (x.natAbs % y.natAbs)).length:Int)>0)=false)∨decide (x.sign*y.sign<0)=false:=by
      by_cases hn:x.sign*y.sign<0
      ·left
       have:x.natAbs % y.natAbs=0:=Decidable.not_not.1 fun h=>hlow ⟨hn,h⟩
       rw[this];exact⟨decide_eq_true hn,rfl⟩
      ·right;exact decide_eq_false hn
     have hla:(dg (x.natAbs / y.natAbs)).length≤1000000:=by omega
     have hlb:(dg (x.natAbs % y.natAbs)).length≤1000000:=by omega
     have hs1:eR (x.sign*y.sign) (dg (x.natAbs / y.natAbs))=aP (x.fdiv y):=by
      refine cR ?_ fun hn=>?_
      ·rw[eq]
       have hgen:∀ Q:Nat,(x=0→Q=0)→(x.sign*y.sign*(Q:Int)).natAbs=Q:=by
        intro Q h0;rcases cr x with ⟨e,h1⟩ | ⟨e,h1⟩ | ⟨e,h1⟩<;>rcases cr y with ⟨e',h3⟩ | ⟨e',h3⟩ | ⟨e',h3⟩<;>rw[e,e']<;>first | omega | (rw[h0 h1];rfl)
       exact hgen _ fun h0=>by rw[h0];exact Nat.zero_div _
      ·rw[eq,hp,YS,YS,YS,YX,YX,YW (show (0:Int)<((x.natAbs / y.natAbs:Nat):Int) from Int.natCast_pos.2 (YZ hn)),YI]
     have hs2:eR x.sign (dg (x.natAbs % y.natAbs))=aP (x.fmod y):=by
      refine cR ?_ fun hn=>?_
      ·rw[er]
       have hgen:∀ Q:Nat,(x=0→Q=0)→(x.sign*(Q:Int)).natAbs=Q:=by
        intro Q h0;rcases cr x with ⟨e,h1⟩ | ⟨e,h1⟩ | ⟨e,h1⟩<;>rw[e]<;>first | omega | (rw[h0 h1];rfl)
       exact hgen _ fun h0=>by rw[h0];exact YJ _
      ·rw[er,YS,YX,YW (show (0:Int)<((x.natAbs % y.natAbs:Nat):Int) from Int.natCast_pos.2 (YZ hn)),YI]
     rcases hlow' with ⟨hlow1,hlow2⟩ | hlow1
     ·refine qI ?_
      repeat' (intro h<;>simp only[h,go_sem,go_sem_proc,YP,ax,ld,nz,nv,bj,hr,hr2,hl1,hl2,hy0',hw,hdiv,hlow1,hlow2,hla,hlb,hs1,hs2,aa,YY,bY,fb,fF]<;>try refine qS ?_ ?_)
     ·refine qI ?_
      repeat' (intro h<;>simp only[h,go_sem,go_sem_proc,YP,ax,ld,nz,nv,bj,hr,hr2,hl1,hl2,hy0',hw,hdiv,hlow1,hla,hlb,hs1,hs2,aa,YY,bY,fb,fF]<;>try refine qS ?_ ?_)
  ·have hr2:aJ (s2,l2)=false:=by simpa using hr2
   have hm:jo (s,l) (s2,l2)=((0,[]),(0,[]),1):=by unfold jo;rw[hr2,Y0];rfl
   rw[hm];refine qI ?_
   repeat' (intro h<;>simp only[h,go_sem,go_sem_proc,YP,ax,ld,nz,nv,bj,hr,hr2,hl1,hl2,bY,fb,YQ]<;>try refine qS ?_ ?_)
 ·have hr:aJ (s,l)=false:=by simpa using hr
  have hm:jo (s,l) (s2,l2)=((0,[]),(0,[]),1):=by unfold jo;rw[hr,Y1];rfl
  rw[hm];refine qI ?_
  repeat' (intro h<;>simp only[h,go_sem,go_sem_proc,YP,ax,ld,nz,nv,bj,hr,hl1,hl2,bY,fb,YQ]<;>try refine qS ?_ ?_)
def bZ (n:Int):Prop:=-9223372036854775808≤n∧n≤9223372036854775807
theorem MU {n:Nat} (h:n≤9223372036854775808):n<LIM:=by
 unfold LIM;refine Nat.lt_of_lt_of_le (m:=1048576^4) ?_ (Nat.pow_le_pow_right (by omega) (by omega));omega
theorem jw {n:Int} (h:bZ n):n.natAbs<LIM:=MU (by unfold bZ at h;omega)
theorem rN (n:Int) (h1:-18446744073709551616≤n) (h2:n<0):IntKind.u64.wrap n=n+18446744073709551616:=by
 unfold IntKind.wrap;simp [IntKind.bits,IntKind.signed];omega
noncomputable def y0:List Data→Option PRes:=FF (α:=Int) (fun (n:Int)=>([.int .i64 n]:List Data)) (fun (n:Int)=>aG (bZ n) (.same (.agg (bY (aP n)))))
theorem AJ:∀ a b:Int,(fun (n:Int)=>([.int .i64 n]:List Data)) a=(fun (n:Int)=>([.int .i64 n]:List Data)) b→a=b:=by
  intro n1 n2 h;simp only[List.cons.injEq,Data.int.injEq,Data.agg.injEq,Data.sl.injEq,Data.bool.injEq,Data.str.injEq,Data.ptr.injEq,Data.tup.injEq,Prod.mk.injEq,true_and,and_true] at h ⊢
  first | exact h | simpa [Y2,and_assoc] using h | grind
@[go_sem] theorem OB (n:Int) (hc:bZ n):y0 [.int .i64 n]=some (.same (.agg (bY (aP n)))):=(aV AJ n).trans (ak hc _)
theorem NE (T:Tab) (bj:T bs=mkE jE) (n:Int) (hc:bZ n) :
  wp T mf_big_Of.body (bt mf_big_Of.res (.same (.agg (bY (aP n))))) ⟨aw [.dat (.int .i64 n)],emp⟩:=by
 refine ao ?_;simp only[mf_big_Of];have hc':=hc;unfold bZ at hc';obtain⟨hn1,hn2⟩:=hc';have hs:∀ s:Int,(n≠0→s=n.sign)→eR s (dg n.natAbs)=aP n:=fun s h=>cR rfl fun hne=>h (by omega)
 have hlen:(dg n.natAbs).length≤60:=dg_len.2 (jw hc);rcases Y3 (n<0) with hneg | hpos
 ·have hw:=rN n (by omega) hneg
  have hw2:IntKind.u64.wrap (0-(n+18446744073709551616))=(n.natAbs:Int):=by
   rw[rN _ (by omega) (by omega)];omega
  simp only[go_sem,go_sem_proc,YP,bj,hneg,hw,hw2,decide_true];refine ae [2,3] [150002] (fun ((u,g,l):Nat × Nat × List Int) tm mem=>u≤9223372036854775808∧dg n.natAbs=l++dg u∧tm 4 = .dat (.int .u64 u)∧tm 5 = .ref 150021 g 1 0 l.length∧mem 150021=some (g,aC aa l)) (fun (u,_)=>u) (n.natAbs,0,[]) (by refine⟨by omega,rfl,?_,rfl,rfl⟩;rfl) ?_
  intro vs ms hvs hms;simp only[go_sem,go_sem_proc,YP,bj] at hvs hms;subst hvs hms;rintro⟨u,g,l⟩ tm mem hk hm ⟨hu,hd,h4,h5,hm21⟩;simp only[go_sem,go_sem_proc,YP,bj,List.cons.injEq] at hk hm;obtain⟨h2,h3⟩:=hk;rcases Yy u with h0 | hup
  ·subst h0
   rw[fT,Y4] at hd;rw[hd] at hs hlen;have hlen':l.length≤1000000:=by omega
   have hs':=hs (-1) (fun _=>by exact (Y5 hneg).symm);refine qI ?_
   repeat' (intro h<;>simp only[h,go_sem,go_sem_proc,YP,bj,h2,h3,h4,h5,hm,hm21,hs',hlen',bY,Y6,Y7,YY,show ¬ ((0:Int)>0) by omega,decide_false,cU bH,Y8]<;>try refine qS ?_ ?_)
  ·have hul:l.length≤60:=by
    have:=congrArg Y9 hd;rw[Zd] at this;omega
   have hgt:decide ((u:Int)>0)=true:=decide_eq_true (by omega);have hap:∀ a:Int,kY 150021 g 1 l.length 8 1 [.dat (.int .i64 a)] (some (g,aC aa l))=_:=fun a=>cZ bH ia 150021 g 8 l a rfl (by omega) (by omega)
   have hand:=wN u ⟨by omega,by omega⟩
   have hcv:IntKind.i64.wrap ((u:Int) % 1048576)=(u:Int) % 1048576:=an _ (by omega) (by omega);refine qI ?_
   repeat' (intro h<;>simp only[h,go_sem,go_sem_proc,YP,bj,h2,h3,h4,h5,hm,hm21,hgt,hap,hand,hcv,fdivm,show ((20:Int)<0)=False from by simp,if_false,YY,List.cons.injEq]<;>try refine qS ?_ ?_)
   refine⟨(u / 1048576,g+1,l++[(u:Int) % 1048576]),by dsimp only;omega,by dsimp only;omega,by dsimp only;rw[Zg,hd,jP hup];rfl,by first | rfl | (dsimp only;rw[kh _ ⟨by omega,by omega⟩];rfl),by simp,by simp [go_sem]⟩
 ·have hw:IntKind.u64.wrap n=(n.natAbs:Int):=by rw[kh _ ⟨by omega,by omega⟩];omega
  simp only[go_sem,go_sem_proc,YP,bj,hpos,hw,decide_false];refine ae [2,3] [150002] (fun ((u,g,l):Nat × Nat × List Int) tm mem=>u≤9223372036854775808∧dg n.natAbs=l++dg u∧tm 4 = .dat (.int .u64 u)∧tm 5 = .ref 150021 g 1 0 l.length∧mem 150021=some (g,aC aa l)) (fun (u,_)=>u) (n.natAbs,0,[]) (by refine⟨by omega,rfl,?_,rfl,rfl⟩;rfl) ?_
  intro vs ms hvs hms;simp only[go_sem,go_sem_proc,YP,bj] at hvs hms;subst hvs hms;rintro⟨u,g,l⟩ tm mem hk hm ⟨hu,hd,h4,h5,hm21⟩;simp only[go_sem,go_sem_proc,YP,bj,List.cons.injEq] at hk hm;obtain⟨h2,h3⟩:=hk;rcases Yy u with h0 | hup
  ·subst h0
   rw[fT,Y4] at hd;rw[hd] at hs hlen;have hlen':l.length≤1000000:=by omega
   have hs':=hs 1 (fun _=>by exact (YW (by omega)).symm);refine qI ?_
   repeat' (intro h<;>simp only[h,go_sem,go_sem_proc,YP,bj,h2,h3,h4,h5,hm,hm21,hs',hlen',bY,Y6,Y7,YY,show ¬ ((0:Int)>0) by omega,decide_false,cU bH,Y8]<;>try refine qS ?_ ?_)
  ·have hul:l.length≤60:=by
    have:=congrArg Y9 hd;rw[Zd] at this;omega
   have hgt:decide ((u:Int)>0)=true:=decide_eq_true (by omega);have hap:∀ a:Int,kY 150021 g 1 l.length 8 1 [.dat (.int .i64 a)] (some (g,aC aa l))=_:=fun a=>cZ bH ia 150021 g 8 l a rfl (by omega) (by omega)
   have hand:=wN u ⟨by omega,by omega⟩
   have hcv:IntKind.i64.wrap ((u:Int) % 1048576)=(u:Int) % 1048576:=an _ (by omega) (by omega);refine qI ?_
   repeat' (intro h<;>simp only[h,go_sem,go_sem_proc,YP,bj,h2,h3,h4,h5,hm,hm21,hgt,hap,hand,hcv,fdivm,show ((20:Int)<0)=False from by simp,if_false,YY,List.cons.injEq]<;>try refine qS ?_ ?_)
   refine⟨(u / 1048576,g+1,l++[(u:Int) % 1048576]),by dsimp only;omega,by dsimp only;omega,by dsimp only;rw[Zg,hd,jP hup];rfl,by first | rfl | (dsimp only;rw[kh _ ⟨by omega,by omega⟩];rfl),by simp,by simp [go_sem]⟩
theorem zg (k:IntKind) (a b:Int):bits .or k a b=bits .or k b a:=by
 simp only[bits,BitVec.or_comm]
theorem Pa (u d:Int) (i:Nat) (hi:(2:Int)^i≤1152921504606846976) (hu:0≤u∧u<2^i) (hd:0≤d) (h:d*2^i<18446744073709551616):bits .or .u64 u (d*2^i)=u+d*2^i:=by
 rw[zg,Int.add_comm];have h0:0≤d*2^i:=Zj hd (by exact Zm (Zr (by omega)));refine bits_join .u64 64 (by decide) (fun n h1 h2=>kh n ⟨h1,by omega⟩) i _ _ h0 (Int.mul_emod_left _ _) (by omega) hu.1 hu.2 (by omega)
instance (n:Int):Decidable (bZ n):=by unfold bZ;exact inferInstance
def qD (a:Raw):Int × Bool:=if aJ a=true∧bZ (gy a) then (gy a,true) else (0,false)
noncomputable def uw:List Data→Option PRes:=FF (α:=Int × (List Int)) (fun (s,l)=>([.agg [.int .i64 s,.sl (l.map aa)]]:List Data)) (fun (s,l)=>aG (l.length≤1000000) (.same (.tup [.int .i64 (qD (s,l)).1,.bool (qD (s,l)).2])))
theorem yc:∀ a b:Int × (List Int),(fun (s,l)=>([.agg [.int .i64 s,.sl (l.map aa)]]:List Data)) a=(fun (s,l)=>([.agg [.int .i64 s,.sl (l.map aa)]]:List Data)) b→a=b:=by
  rintro⟨s1,l1⟩ ⟨s2,l2⟩ h;simp only[List.cons.injEq,Data.agg.injEq,Data.int.injEq,Data.sl.injEq] at h;exact YO h.1.1.2 (af aj _ _ h.1.2.1)
@[go_sem] theorem Ob (s:Int) (l:List Int) (hc:l.length≤1000000):uw [.agg [.int .i64 s,.sl (l.map aa)]]=some (.same (.tup [.int .i64 (qD (s,l)).1,.bool (qD (s,l)).2])):=(aV yc (s,l)).trans (ak hc _)
theorem JI (T:Tab) (ax:T aY=mkE dX) (s:Int) (l:List Int) (hc:l.length≤1000000) :
  wp T mf_big_Int.body (bt mf_big_Int.res (.same (.tup [.int .i64 (qD (s,l)).1,.bool (qD (s,l)).2]))) ⟨aw [.dat (.agg [.int .i64 s,.sl (l.map aa)])],emp⟩:=by
 refine ao ?_;simp only[mf_big_Int]
 by_cases hr:aJ (s,l)=true
 ·obtain⟨z,hz,e⟩:=(be _).1 hr
  cases e
  have hi:qD (z.sign,dg z.natAbs)=if bZ z then (z,true) else (0,false):=by
   unfold qD;rw[hr,show gy (z.sign,dg z.natAbs)=z from aR z];simp
  rw[hi];clear hi;have hs:=cr z
  by_cases h4:(dg z.natAbs).length≤4
  ·have h4':decide (((dg z.natAbs).length:Int)>4)=false:=decide_eq_false (by omega)
   have hvl:=fR z.natAbs;have hD:=d8 z.natAbs;generalize dg z.natAbs=l at *;simp only[go_sem,go_sem_proc,YP,ax,hr,hc,h4',YY,aa];refine ae [1,17,18] [159001] (fun ((i,u):Nat × Int) tm mem=>i≤l.length∧u=vl (l.take i)∧u<18446744073709551616∧tm 4 = .dat (.int .u64 u)∧tm 19 = .dat (.int .i64 i)) (fun (i,_)=>l.length-i) (0,0) (by refine⟨by omega,rfl,by omega,rfl,rfl⟩) ?_;intro vs ms hvs hms;simp only[go_sem,go_sem_proc,YP,ax] at hvs hms;subst hvs hms;rintro⟨i,u⟩ tm mem hk hm ⟨hi,hu,hu64,ht4,ht19⟩;simp only[go_sem,go_sem_proc,YP,ax,List.cons.injEq] at hk hm;obtain⟨h1,h17,h18⟩:=hk;have hDt:isD (l.take i):=fun d hd=>hD d (List.mem_of_mem_take hd)
   have hu0:0≤u:=by rw[hu];exact cE hDt
   rcases Y3 (i<l.length) with hlt | hge
   ·have hx:=List.getElem?_eq_getElem hlt
    have hd:=hD l[i] (List.getElem_mem hlt);have hstep:=aZ l i hlt;have hub:=qy hDt;rw[List.length_take,Nat.min_eq_left (YT hlt),←hu] at hub;rw[←hu] at hstep;generalize l[i]=d at *;have hltd:decide ((i:Int)<(l.length:Int))=true:=decide_eq_true (by omega);have hwd:IntKind.u64.wrap d=d:=kh d ⟨hd.1,by omega⟩
    have hw20:IntKind.i64.wrap (20*(i:Int))=((20*i:Nat):Int):=by rw[an _ (by omega) (by omega)];omega
    have hmin:min (20*i) 64=20*i:=by omega
    have hn0:(((20*i:Nat):Int)<0)=False:=eq_false (by omega);have hpow:(1048576:Int)^i=2^(20*i):=by rw[Int.pow_mul];rfl;rw[hpow] at hub hstep
    have hpl:(2:Int)^(20*i)≤1152921504606846976:=by
     obtain rfl | rfl | rfl | rfl:i=0∨i=1∨i=2∨i=3:=by omega
     all_goals decide
    by_cases hbig:i=3∧d>8
    ·obtain⟨rfl,hd8⟩:=hbig
     have hd8':decide (d>8)=true:=decide_eq_true hd8;have h33:(((3:Nat):Int)==3)=true:=rfl
     have hni:¬ bZ z:=by
      have htd:=iO l 4;rw[hvl] at htd;have:0≤vl (l.drop 4):=cE fun d hd=>hD d (List.mem_of_mem_drop hd)
      have h5:=Zj (show (0:Int)≤1048576^(min 4 l.length) from Zm (Zr (by omega))) this;unfold bZ;simp only[Zw,Nat.reduceAdd,Zy] at hstep;rw[hstep] at htd;omega
     rw[if_neg hni];refine qI ?_
     repeat' (intro h<;>simp only[h,go_sem,go_sem_proc,YP,ax,h1,h17,h18,ht4,ht19,hm,hx,hd.1,hd.2,hltd,hwd,hd8',h33,YY,Zz,List.cons.injEq,aa]<;>try refine qS ?_ ?_)
    ·have hdb:d*2^(20*i)<18446744073709551616:=by
      obtain rfl | rfl | rfl | rfl:i=0∨i=1∨i=2∨i=3:=by omega
      all_goals simp
      all_goals omega
     have hor:=Pa u d (20*i) hpl ⟨hu0,hub⟩ hd.1 hdb;have hdm:0≤d*2^(20*i):=Zj hd.1 (Zm (Zr (by omega)));have hwm:IntKind.u64.wrap (d*2^(20*i))=d*2^(20*i):=kh _ ⟨hdm,hdb⟩
     have hsum:u+d*2^(20*i)<18446744073709551616:=by
      clear hor hwm hdm hw20 hn0 hpow hpl hstep;obtain rfl | rfl | rfl | rfl:i=0∨i=1∨i=2∨i=3:=by omega
      all_goals simp only[Zw,Zy] at hub hdb ⊢
      all_goals omega
     by_cases h3:((i:Int)==3)=true
     ·have hd8:decide (d>8)=false:=decide_eq_false fun h=>hbig ⟨by simp at h3;omega,h⟩
      refine qI ?_
      repeat' (intro h<;>simp only[h,go_sem,go_sem_proc,YP,ax,h1,h17,h18,ht4,ht19,hm,hx,hd.1,hd.2,hltd,hwd,h3,hd8,hw20,hn0,if_false,ZA,hmin,hwm,hor,YY,Zz,List.cons.injEq,aa]<;>try refine qS ?_ ?_)
      exact⟨(i+1,u+d*2^(20*i)),by dsimp only;omega,by dsimp only;omega,by dsimp only;rw[hstep,ZB],hsum,rfl,by rw[an _ (by omega) (by omega)];rfl⟩
     ·have h3:((i:Int)==3)=false:=by simpa using h3
      refine qI ?_
      repeat' (intro h<;>simp only[h,go_sem,go_sem_proc,YP,ax,h1,h17,h18,ht4,ht19,hm,hx,hd.1,hd.2,hltd,hwd,h3,hw20,hn0,if_false,ZA,hmin,hwm,hor,YY,Zz,List.cons.injEq,aa]<;>try refine qS ?_ ?_)
      exact⟨(i+1,u+d*2^(20*i)),by dsimp only;omega,by dsimp only;omega,by dsimp only;rw[hstep,ZB],hsum,rfl,by rw[an _ (by omega) (by omega)];rfl⟩
   ·have hltd:decide ((i:Int)<(l.length:Int))=false:=decide_eq_false (by omega)
    have hil:i=l.length:=by omega
    rw[hil,Y8,hvl] at hu;rcases hs with ⟨hs,hz0⟩ | ⟨hs,hz0⟩ | ⟨hs,hz0⟩
    ·by_cases hr64:u<9223372036854775808
     ·rw[if_pos (by unfold bZ;omega)]
      have hw:IntKind.i64.wrap u=z:=by rw[an u (by omega) (by omega)];omega
      refine qI ?_
      repeat' (intro h<;>simp only[h,go_sem,go_sem_proc,YP,ax,h1,h17,h18,ht4,ht19,hm,hltd,hs,hr64,show decide ((1:Int)<0)=false from rfl,show decide ((1:Int)≥0)=true from rfl,show decide ((-1:Int)<0)=true from rfl,show decide ((-1:Int)≥0)=false from rfl,hw,decide_true,decide_false,YY]<;>try refine qS ?_ ?_)
     ·rw[if_neg (by unfold bZ;omega)]
      refine qI ?_
      repeat' (intro h<;>simp only[h,go_sem,go_sem_proc,YP,ax,h1,h17,h18,ht4,ht19,hm,hltd,hs,hr64,show decide ((1:Int)<0)=false from rfl,show decide ((1:Int)≥0)=true from rfl,show decide ((-1:Int)<0)=true from rfl,show decide ((-1:Int)≥0)=false from rfl,decide_true,decide_false,YY]<;>try refine qS ?_ ?_)
    ·rw[if_pos (by unfold bZ;omega)]
     have hu0':u=0:=by omega
     subst hz0;subst hu0';refine qI ?_
     repeat' (intro h<;>simp only[h,go_sem,go_sem_proc,YP,ax,h1,h17,h18,ht4,ht19,hm,hltd,hs,show decide ((0:Int)<0)=false from rfl,show decide ((0:Int)≥0)=true from rfl,show decide ((0:Int)<9223372036854775808)=true from rfl,show IntKind.i64.wrap 0=0 from rfl,show (0:Int).sign=0 from rfl,decide_true,decide_false,YY]<;>try refine qS ?_ ?_)
    ·by_cases hr64:u≤9223372036854775808
     ·rw[if_pos (by unfold bZ;omega)]
      have hw:=rN (0-u) (by omega) (by omega)
      have hw2:IntKind.i64.wrap (0-u+18446744073709551616)=z:=by
       simp [IntKind.wrap,IntKind.bits,IntKind.signed];omega
      refine qI ?_
      repeat' (intro h<;>simp only[h,go_sem,go_sem_proc,YP,ax,h1,h17,h18,ht4,ht19,hm,hltd,hs,hr64,show decide ((1:Int)<0)=false from rfl,show decide ((1:Int)≥0)=true from rfl,show decide ((-1:Int)<0)=true from rfl,show decide ((-1:Int)≥0)=false from rfl,hw,hw2,decide_true,decide_false,YY]<;>try refine qS ?_ ?_)
     ·rw[if_neg (by unfold bZ;omega)]
      refine qI ?_
      repeat' (intro h<;>simp only[h,go_sem,go_sem_proc,YP,ax,h1,h17,h18,ht4,ht19,hm,hltd,hs,hr64,show decide ((1:Int)<0)=false from rfl,show decide ((1:Int)≥0)=true from rfl,show decide ((-1:Int)<0)=true from rfl,show decide ((-1:Int)≥0)=false from rfl,decide_true,decide_false,YY]<;>try refine qS ?_ ?_)
  ·have h4':decide (((dg z.natAbs).length:Int)>4)=true:=decide_eq_true (by omega)
   have hn:¬ bZ z:=by
    intro h;unfold bZ at h;refine h4 (dg_len.2 ?_);omega
   rw[if_neg hn];refine qI ?_
   repeat' (intro h<;>simp only[h,go_sem,go_sem_proc,YP,ax,hr,hc,h4',YY]<;>try refine qS ?_ ?_)
 ·have hr:aJ (s,l)=false:=by simpa using hr
  have hi:qD (s,l)=(0,false):=by unfold qD;rw[if_neg];rw[hr];simp
  rw[hi];refine qI ?_
  repeat' (intro h<;>simp only[h,go_sem,go_sem_proc,YP,ax,hr,hc]<;>try refine qS ?_ ?_)
def mf_frac_Right:MFunc :=
 { n:=35,np:=1,res:=[.t 2],body :=
 (.seq (.ops [
 Zk 1 116001 0,Zb 2 false])
 (.seq (.seq (.ops [
 Zf 5 0 1,Zu 6 2 5,⟨some 7,none,.call aY [(.t 6)]⟩,Zt 8 7,Zv 9 8,⟨some 10,some (9,false),.fad 2 (.t 1)⟩,⟨some 11,some (9,false),.load 2 true (.t 10)⟩,⟨some 12,some (9,false),.call aY [(.t 11)]⟩,⟨some 13,some (9,false),.un .not (.t 12)⟩,Zp 14 9 13,Zv 15 14,⟨some 16,some (15,false),.fad 2 (.t 1)⟩,⟨some 17,some (15,false),.fad 0 (.t 16)⟩,⟨some 18,some (15,false),.load 1 false (.t 17)⟩,⟨some 19,some (15,false),.bin .neq (.t 18) (.c (ZI 1))⟩,Zp 20 15 19])
 (.cond (.t 20)
 (.seq (.ops [
 Zb 2 false])
 .ret)
 .skip))
 (.seq (.ops [
 Zf 22 0 1,Zu 23 2 22,Zf 24 2 1,Zu 25 2 24,⟨some 26,none,.call kC [(.t 23),(.t 25)]⟩,Zv 21 26,Zx 27 0 21,Zx 28 1 21,⟨some 3,none,.alloc 116003 [(ZI 0),.nil]⟩,Zs 2 3 27,Zv 4 28])
 (.seq (.ops [
 Zv 29 4,Zc 30 .eql 29 0,Zv 31 30,⟨some 32,some (31,true),.load 2 true (.t 3)⟩,⟨some 33,some (31,true),.call oi [(.t 32)]⟩,Zq 34 31 33,Zv 2 34])
 .ret)))) }
def mf_frac_Add:MFunc :=
 { n:=46,np:=2,res:=[.cell 4 4 true,.t 5],body :=
 (.seq (.ops [
 Zk 2 119002 0,Zk 3 119003 1,⟨some 4,none,.alloc 119004 [(ZI 0),.nil,(ZI 0),.nil]⟩,Zi 5 0])
 (.seq (.seq (.ops [
 Zu 10 4 2,⟨some 11,none,.call aQ [(.t 10)]⟩,Zt 12 11,Zv 13 12,⟨some 14,some (13,false),.load 4 true (.t 3)⟩,⟨some 15,some (13,false),.call aQ [(.t 14)]⟩,⟨some 16,some (13,false),.un .not (.t 15)⟩,Zp 17 13 16])
 (.cond (.t 17)
 (.seq (.ops [
 ⟨some 18,none,.build [(ZI 0),.nil,(ZI 0),.nil] []⟩,Zs 4 4 18,Zi 5 1])
 .ret)
 .skip))
 (.seq (.ops [
 Zf 20 0 2,Zu 21 2 20,Zf 22 2 3,Zu 23 2 22,Zf 24 0 3,Zu 25 2 24,Zf 26 2 2,Zu 27 2 26,⟨some 28,none,.call nI [(.t 21),(.t 23),(.t 25),(.t 27)]⟩,Zv 19 28,Zx 29 0 19,Zx 30 1 19,⟨some 6,none,.alloc 119006 [(ZI 0),.nil]⟩,Zs 2 6 29,Zv 7 30])
 (.seq (.ops [
 Zf 32 2 2,Zu 33 2 32,Zf 34 2 3,Zu 35 2 34,⟨some 36,none,.call dH [(.t 33),(.t 35)]⟩,Zv 31 36,Zx 37 0 31,Zx 38 1 31,⟨some 8,none,.alloc 119008 [(ZI 0),.nil]⟩,Zs 2 8 37,Zv 9 38])
 (.seq (.ops [
 Zu 39 2 6,Zv 40 7,Zu 41 2 8,Zv 42 9,⟨some 43,none,.call dy [(.t 39),(.t 40),(.t 41),(.t 42)]⟩,Zx 44 0 43,Zx 45 1 43,Zs 4 4 44,Zv 5 45])
 .ret))))) }
def mf_frac_Of:MFunc :=
 { n:=13,np:=2,res:=[.cell 4 4 true,.t 5],body :=
 (.seq (.ops [
 ⟨some 4,none,.alloc 130004 [(ZI 0),.nil,(ZI 0),.nil]⟩,Zi 5 0])
 (.seq (.ops [
 Zv 6 0,⟨some 7,none,.call oA [(.t 6)]⟩,Zv 8 1,⟨some 9,none,.call oA [(.t 8)]⟩,⟨some 10,none,.call jK [(.t 7),(.t 9)]⟩,Zx 11 0 10,Zx 12 1 10,Zs 4 4 11,Zv 5 12])
 .ret)) }
def mf_frac_Sub:MFunc :=
 { n:=25,np:=2,res:=[.cell 4 4 true,.t 5],body :=
 (.seq (.ops [
 Zk 2 132002 0,Zk 3 132003 1,⟨some 4,none,.alloc 132004 [(ZI 0),.nil,(ZI 0),.nil]⟩,Zi 5 0])
 (.seq (.seq (.ops [
 Zu 6 4 2,⟨some 7,none,.call aQ [(.t 6)]⟩,Zt 8 7,Zv 9 8,⟨some 10,some (9,false),.load 4 true (.t 3)⟩,⟨some 11,some (9,false),.call aQ [(.t 10)]⟩,⟨some 12,some (9,false),.un .not (.t 11)⟩,Zp 13 9 12])
 (.cond (.t 13)
 (.seq (.ops [
 ⟨some 14,none,.build [(ZI 0),.nil,(ZI 0),.nil] []⟩,Zs 4 4 14,Zi 5 1])
 .ret)
 .skip))
 (.seq (.opsD [
 Zu 15 4 2,Zf 16 0 3,Zu 17 2 16,⟨some 18,none,.call jl [(.t 17)]⟩,Zf 19 2 3,Zu 20 2 19,⟨some 21,none,.build [(ZI 0),.nil,(ZI 0),.nil] [(0,2,(.t 18)),(2,2,(.t 20))]⟩,⟨some 22,none,.call cB [(.t 15),(.t 21)]⟩,Zx 23 0 22,Zx 24 1 22,Zs 4 4 23,Zv 5 24] [[],[],[],[],[],[],[],[],[],[],[],[]])
 .ret))) }
def mf_frac_Mul:MFunc :=
 { n:=42,np:=2,res:=[.cell 4 4 true,.t 5],body :=
 (.seq (.ops [
 Zk 2 134002 0,Zk 3 134003 1,⟨some 4,none,.alloc 134004 [(ZI 0),.nil,(ZI 0),.nil]⟩,Zi 5 0])
 (.seq (.seq (.ops [
 Zu 10 4 2,⟨some 11,none,.call aQ [(.t 10)]⟩,Zt 12 11,Zv 13 12,⟨some 14,some (13,false),.load 4 true (.t 3)⟩,⟨some 15,some (13,false),.call aQ [(.t 14)]⟩,⟨some 16,some (13,false),.un .not (.t 15)⟩,Zp 17 13 16])
 (.cond (.t 17)
 (.seq (.ops [
 ⟨some 18,none,.build [(ZI 0),.nil,(ZI 0),.nil] []⟩,Zs 4 4 18,Zi 5 1])
 .ret)
 .skip))
 (.seq (.ops [
 Zf 20 0 2,Zu 21 2 20,Zf 22 0 3,Zu 23 2 22,⟨some 24,none,.call dH [(.t 21),(.t 23)]⟩,Zv 19 24,Zx 25 0 19,Zx 26 1 19,⟨some 6,none,.alloc 134006 [(ZI 0),.nil]⟩,Zs 2 6 25,Zv 7 26])
 (.seq (.ops [
 Zf 28 2 2,Zu 29 2 28,Zf 30 2 3,Zu 31 2 30,⟨some 32,none,.call dH [(.t 29),(.t 31)]⟩,Zv 27 32,Zx 33 0 27,Zx 34 1 27,⟨some 8,none,.alloc 134008 [(ZI 0),.nil]⟩,Zs 2 8 33,Zv 9 34])
 (.seq (.ops [
 Zu 35 2 6,Zv 36 7,Zu 37 2 8,Zv 38 9,⟨some 39,none,.call dy [(.t 35),(.t 36),(.t 37),(.t 38)]⟩,Zx 40 0 39,Zx 41 1 39,Zs 4 4 40,Zv 5 41])
 .ret))))) }
def mf_frac_Compare:MFunc :=
 { n:=78,np:=2,res:=[.t 4],body :=
 (.seq (.ops [
 Zk 2 135002 0,Zk 3 135003 1,Zi 4 0])
 (.seq (.seq (.ops [
 Zu 17 4 2,⟨some 18,none,.call aQ [(.t 17)]⟩,Zt 19 18,Zv 20 19,⟨some 21,some (20,false),.load 4 true (.t 3)⟩,⟨some 22,some (20,false),.call aQ [(.t 21)]⟩,⟨some 23,some (20,false),.un .not (.t 22)⟩,Zp 24 20 23])
 (.cond (.t 24)
 (.seq (.ops [
 Zi 4 0])
 .ret)
 .skip))
 (.seq (.opsD [
 Zf 25 0 2,Zu 26 2 25,Zf 27 2 2,Zu 28 2 27,Zf 29 0 3,Zu 30 2 29,Zf 31 2 3,Zu 32 2 31,⟨some 5,none,.alloc 135005 [(ZI 0),.nil]⟩,⟨some 6,none,.alloc 135006 [(ZI 0),.nil]⟩,⟨some 7,none,.alloc 135007 [(ZI 0),.nil]⟩,⟨some 8,none,.alloc 135008 [(ZI 0),.nil]⟩,Zs 2 5 26,Zs 2 6 28,Zs 2 7 30,Zs 2 8 32] [[],[],[],[],[],[],[],[],[1,3,5,7],[1,3,5,7,8],[1,3,5,7,8,9],[1,3,5,7,8,9,10],[3,5,7],[5,7],[7],[]])
 (.seq (.ops [
 Zi 9 1])
 (.block 0
 (.loop
 (.seq (.block 1
 (.seq (.ops [
 Zu 36 2 5,Zu 37 2 6,⟨some 38,none,.call ir [(.t 36),(.t 37)]⟩,Zv 35 38,Zx 39 0 35,Zx 40 1 35,Zx 41 2 35,⟨some 10,none,.alloc 135010 [(ZI 0),.nil]⟩,⟨some 11,none,.alloc 135011 [(ZI 0),.nil]⟩,Zs 2 10 39,Zs 2 11 40,Zv 12 41])
 (.seq (.ops [
 Zu 43 2 7,Zu 44 2 8,⟨some 45,none,.call ir [(.t 43),(.t 44)]⟩,Zv 42 45,Zx 46 0 42,Zx 47 1 42,Zx 48 2 42,⟨some 13,none,.alloc 135013 [(ZI 0),.nil]⟩,⟨some 14,none,.alloc 135014 [(ZI 0),.nil]⟩,Zs 2 13 46,Zs 2 14 47,Zv 15 48])
 (.seq (.seq (.ops [
 Zu 49 2 10,Zu 50 2 13,⟨some 51,none,.call kS [(.t 49),(.t 50)]⟩,Zv 16 51])
 (.block 2
 (.seq (.ops [
 Zv 53 16,Zc 54 .neq 53 0,Zv 52 54])
 (.cond (.t 52)
 (.seq (.ops [
 Zv 55 9,Zv 56 16,Zo 57 .mul 55 56,Zv 4 57])
 .ret)
 (.seq (.ops [
 Zf 59 0 11,Zl 60 1 59,Zc 61 .eql 60 0,Zv 62 61,⟨some 63,some (62,false),.fad 0 (.t 14)⟩,⟨some 64,some (62,false),.load 1 false (.t 63)⟩,⟨some 65,some (62,false),.bin .eql (.t 64) (.c (ZI 0))⟩,Zp 66 62 65,Zv 58 66])
 (.cond (.t 58)
 (.seq (.ops [
 Zv 67 9,Zf 68 0 11,Zl 69 1 68,Zf 70 0 14,Zl 71 1 70,Zo 72 .sub 69 71,Zo 73 .mul 67 72,Zv 4 73])
 .ret)
 .skip))))))
 (.opsD [
 Zu 74 2 6,Zu 75 2 11,Zu 76 2 8,Zu 77 2 14,Zs 2 5 74,Zs 2 6 75,Zs 2 7 76,Zs 2 8 77] [[],[],[],[],[1,2,3],[2,3],[3],[]])))))
 (.ops [
 Zv 33 9,⟨some 34,none,.un .neg (.t 33)⟩,Zv 9 34])))))))) }
def mf_frac_one:MFunc :=
 { n:=15,np:=1,res:=[.t 2],body :=
 (.seq (.ops [
 Zk 1 138001 0,Zb 2 false])
 (.seq (.ops [
 Zu 6 2 1,⟨some 7,none,.call pA [(.t 6)]⟩,Zv 5 7,Zx 8 0 5,Zx 9 1 5,Zv 3 8,Zv 4 9])
 (.seq (.ops [
 Zv 10 4,Zv 11 10,⟨some 12,some (11,true),.mv (.t 3)⟩,⟨some 13,some (11,true),.bin .eql (.t 12) (.c (ZI 1))⟩,Zq 14 11 13,Zv 2 14])
 .ret))) }
def mf_frac_sum:MFunc :=
 { n:=38,np:=4,res:=[.cell 8 2 true,.t 9],body :=
 (.seq (.ops [
 Zk 4 139004 0,Zk 5 139005 1,Zk 6 139006 2,Zk 7 139007 3,⟨some 8,none,.alloc 139008 [(ZI 0),.nil]⟩,Zi 9 0])
 (.seq (.ops [
 Zu 14 2 4,Zu 15 2 5,⟨some 16,none,.call dH [(.t 14),(.t 15)]⟩,Zv 13 16,Zx 17 0 13,Zx 18 1 13,⟨some 10,none,.alloc 139010 [(ZI 0),.nil]⟩,Zs 2 10 17,Zv 11 18])
 (.seq (.seq (.ops [
 Zv 19 11,Zc 20 .neq 19 0])
 (.cond (.t 20)
 (.seq (.ops [
 ⟨some 21,none,.build [(ZI 0),.nil] []⟩,Zv 22 11,Zs 2 8 21,Zv 9 22])
 .ret)
 .skip))
 (.seq (.ops [
 Zu 24 2 6,Zu 25 2 7,⟨some 26,none,.call dH [(.t 24),(.t 25)]⟩,Zv 23 26,Zx 27 0 23,Zx 28 1 23,⟨some 12,none,.alloc 139012 [(ZI 0),.nil]⟩,Zs 2 12 27,Zv 11 28])
 (.seq (.seq (.ops [
 Zv 29 11,Zc 30 .neq 29 0])
 (.cond (.t 30)
 (.seq (.ops [
 ⟨some 31,none,.build [(ZI 0),.nil] []⟩,Zv 32 11,Zs 2 8 31,Zv 9 32])
 .ret)
 .skip))
 (.seq (.ops [
 Zu 33 2 10,Zu 34 2 12,⟨some 35,none,.call pS [(.t 33),(.t 34)]⟩,Zx 36 0 35,Zx 37 1 35,Zs 2 8 36,Zv 9 37])
 .ret)))))) }
def mf_frac_quotient:MFunc :=
 { n:=22,np:=4,res:=[.cell 8 4 true,.t 9],body :=
 (.seq (.ops [
 Zk 4 141004 0,Zk 6 141006 2,⟨some 8,none,.alloc 141008 [(ZI 0),.nil,(ZI 0),.nil]⟩,Zi 9 0])
 (.seq (.seq (.ops [
 Zv 10 1,Zc 11 .neq 10 0,Zv 12 11,⟨some 13,some (12,false),.mv (.t 3)⟩,⟨some 14,some (12,false),.bin .neq (.t 13) (.c (ZI 0))⟩,Zp 15 12 14])
 (.cond (.t 15)
 (.seq (.ops [
 ⟨some 16,none,.build [(ZI 0),.nil,(ZI 0),.nil] []⟩,Zs 4 8 16,Zi 9 6])
 .ret)
 .skip))
 (.seq (.ops [
 Zu 17 2 4,Zu 18 2 6,⟨some 19,none,.call jK [(.t 17),(.t 18)]⟩,Zx 20 0 19,Zx 21 1 19,Zs 4 8 20,Zv 9 21])
 .ret))) }
def mf_frac_New:MFunc :=
 { n:=60,np:=2,res:=[.cell 4 4 true,.t 5],body :=
 (.seq (.ops [
 Zk 2 149002 0,Zk 3 149003 1,⟨some 4,none,.alloc 149004 [(ZI 0),.nil,(ZI 0),.nil]⟩,Zi 5 0])
 (.seq (.block 0
 (.seq (.ops [
 Zu 15 2 2,⟨some 16,none,.call aY [(.t 15)]⟩,Zt 17 16,Zv 18 17,⟨some 19,some (18,false),.load 2 true (.t 3)⟩,⟨some 20,some (18,false),.call aY [(.t 19)]⟩,⟨some 21,some (18,false),.un .not (.t 20)⟩,Zp 22 18 21,Zv 14 22])
 (.cond (.t 14)
 (.seq (.ops [
 ⟨some 23,none,.build [(ZI 0),.nil,(ZI 0),.nil] []⟩,Zs 4 4 23,Zi 5 1])
 .ret)
 (.seq (.ops [
 Zf 25 0 3,Zl 26 1 25,Zc 27 .eql 26 0,Zv 24 27])
 (.cond (.t 24)
 (.seq (.ops [
 ⟨some 28,none,.build [(ZI 0),.nil,(ZI 0),.nil] []⟩,Zs 4 4 28,Zi 5 15])
 .ret)
 (.seq (.ops [
 Zf 30 0 3,Zl 31 1 30,Zc 32 .lss 31 0,Zv 29 32])
 (.cond (.t 29)
 (.opsD [
 Zu 33 2 2,⟨some 34,none,.call jl [(.t 33)]⟩,Zu 35 2 3,⟨some 36,none,.call jl [(.t 35)]⟩,Zs 2 2 34,Zs 2 3 36] [[],[],[],[],[],[]])
 .skip)))))))
 (.seq (.ops [
 Zu 38 2 2,Zu 39 2 3,⟨some 40,none,.call kC [(.t 38),(.t 39)]⟩,Zv 37 40,Zx 41 0 37,Zx 42 1 37,⟨some 6,none,.alloc 149006 [(ZI 0),.nil]⟩,Zs 2 6 41,Zv 7 42])
 (.seq (.ops [
 Zu 44 2 2,Zu 45 2 6,⟨some 46,none,.call ir [(.t 44),(.t 45)]⟩,Zv 43 46,Zx 47 0 43,Zx 48 1 43,Zx 49 2 43,⟨some 8,none,.alloc 149008 [(ZI 0),.nil]⟩,⟨some 9,none,.alloc 149009 [(ZI 0),.nil]⟩,Zs 2 8 47,Zs 2 9 48,Zv 10 49])
 (.seq (.ops [
 Zu 51 2 3,Zu 52 2 6,⟨some 53,none,.call ir [(.t 51),(.t 52)]⟩,Zv 50 53,Zx 54 0 50,Zx 55 1 50,Zx 56 2 50,⟨some 11,none,.alloc 149011 [(ZI 0),.nil]⟩,⟨some 12,none,.alloc 149012 [(ZI 0),.nil]⟩,Zs 2 11 54,Zs 2 12 55,Zv 13 56])
 (.seq (.ops [
 Zu 57 2 8,Zu 58 2 11,⟨some 59,none,.build [(ZI 0),.nil,(ZI 0),.nil] [(0,2,(.t 57)),(2,2,(.t 58))]⟩,Zs 4 4 59,Zi 5 0])
 .ret)))))) }
def mf_frac_Div:MFunc :=
 { n:=49,np:=2,res:=[.cell 4 4 true,.t 5],body :=
 (.seq (.ops [
 Zk 2 169002 0,Zk 3 169003 1,⟨some 4,none,.alloc 169004 [(ZI 0),.nil,(ZI 0),.nil]⟩,Zi 5 0])
 (.seq (.block 0
 (.seq (.ops [
 Zu 11 4 2,⟨some 12,none,.call aQ [(.t 11)]⟩,Zt 13 12,Zv 14 13,⟨some 15,some (14,false),.load 4 true (.t 3)⟩,⟨some 16,some (14,false),.call aQ [(.t 15)]⟩,⟨some 17,some (14,false),.un .not (.t 16)⟩,Zp 18 14 17,Zv 10 18])
 (.cond (.t 10)
 (.seq (.ops [
 ⟨some 19,none,.build [(ZI 0),.nil,(ZI 0),.nil] []⟩,Zs 4 4 19,Zi 5 1])
 .ret)
 (.seq (.ops [
 Zf 21 0 3,Zf 22 0 21,Zl 23 1 22,Zc 24 .eql 23 0,Zv 20 24])
 (.cond (.t 20)
 (.seq (.ops [
 ⟨some 25,none,.build [(ZI 0),.nil,(ZI 0),.nil] []⟩,Zs 4 4 25,Zi 5 15])
 .ret)
 .skip)))))
 (.seq (.ops [
 Zf 27 0 2,Zu 28 2 27,Zf 29 2 3,Zu 30 2 29,⟨some 31,none,.call dH [(.t 28),(.t 30)]⟩,Zv 26 31,Zx 32 0 26,Zx 33 1 26,⟨some 6,none,.alloc 169006 [(ZI 0),.nil]⟩,Zs 2 6 32,Zv 7 33])
 (.seq (.ops [
 Zf 35 2 2,Zu 36 2 35,Zf 37 0 3,Zu 38 2 37,⟨some 39,none,.call dH [(.t 36),(.t 38)]⟩,Zv 34 39,Zx 40 0 34,Zx 41 1 34,⟨some 8,none,.alloc 169008 [(ZI 0),.nil]⟩,Zs 2 8 40,Zv 9 41])
 (.seq (.ops [
 Zu 42 2 6,Zv 43 7,Zu 44 2 8,Zv 45 9,⟨some 46,none,.call dy [(.t 42),(.t 43),(.t 44),(.t 45)]⟩,Zx 47 0 46,Zx 48 1 46,Zs 4 4 47,Zv 5 48])
 .ret))))) }
abbrev aE:=Raw × Raw
def ad (f:aE):List Data:=[.int .i64 f.1.1,.sl (f.1.2.map aa),.int .i64 f.2.1,.sl (f.2.2.map aa)]
def bz (x:aE × Int):Data:=.tup [.agg (ad x.1),.int .i64 x.2]
def ah (x:Rat):aE:=(aP x.num,aP x.den)
def bX (x:Rat):Prop:=x.num.natAbs<LIM∧x.den<LIM
def bO:aE:=((0,[]),(0,[]))
def bb (f:aE):Bool:=aJ f.1&&(aJ f.2&&(f.2.1==1&&(ZC (gy f.1).natAbs (gy f.2).natAbs==1)))
def pr (f:aE):Rat:=ZD (gy f.1) (gy f.2)
theorem kE (x:Rat):pr (ah x)=x:=by
 unfold pr ah;rw[aR,aR,ZE]
theorem vz {x y:Rat} (h:ah x=ah y):x=y:=by rw[←kE x,h,kE]
theorem den_pos (x:Rat):0<(x.den:Int):=Int.natCast_pos.2 x.den_pos
theorem I4 {n:Int} (h:0<n):(aP n).1=1:=YW h
theorem kR (f:aE):bb f=true↔∃ x,bX x∧f=ah x:=by
 unfold bb;simp only[ZF,beq_iff_eq]
 constructor
 ·rintro⟨h1,h2,h3,h4⟩
  obtain⟨p,hp,e1⟩:=(be _).1 h1;obtain⟨q,hq,e2⟩:=(be _).1 h2;obtain⟨f1,f2⟩:=f;simp only at e1 e2 h3 h4;subst e1 e2;rw[aR,aR] at h4
  have hqp:0<q:=by
   rcases cr q with ⟨_,h⟩ | ⟨e,_⟩ | ⟨e,_⟩
   ·exact h
   ·have:q.sign=1:=h3;omega
   ·have:q.sign=1:=h3;omega
  refine⟨⟨p,q.natAbs,by omega,h4⟩,⟨hp,hq⟩,?_⟩
  unfold ah;rw[show ((q.natAbs:Nat):Int)=q by omega]
 ·rintro⟨x,⟨h1,h2⟩,rfl⟩
  have hd:(x.den:Int).natAbs<LIM:=by rw[YN];exact h2
  refine⟨bF h1,bF hd,I4 (den_pos x),?_⟩;unfold ah;rw[aR,aR,YN];exact x.reduced
theorem eJ {x:Rat} (h:bX x):bb (ah x)=true:=(kR _).2 ⟨x,h,rfl⟩
theorem tP {x:Rat} (h:bX x):(x.den:Int).natAbs<LIM:=by rw[YN];exact h.2
theorem eN {z:Int} (h:z.natAbs<LIM):(dg z.natAbs).length≤1000000:=by have:=fv h;omega
def Em (a:Raw):Bool:=(qD a).2&&((qD a).1==1)
theorem JG {z:Int} (h:z.natAbs<LIM):Em (aP z)=decide (z=1):=by
 unfold Em qD;rw[bF h,aR]
 by_cases hi:bZ z
 ·rw[if_pos ⟨rfl,hi⟩]
  simp only[ZG]
  rfl
 ·rw[if_neg fun h=>hi h.2]
  have:z≠1:=by rintro rfl;exact hi (by unfold bZ;omega)
  simp [this]
noncomputable def DH:List Data→Option PRes:=FF (α:=Int × (List Int)) (fun (s,l)=>([.agg [.int .i64 s,.sl (l.map aa)]]:List Data)) (fun (s,l)=>aG (l.length≤1000000) (.same (.bool (Em (s,l)))))
theorem CE:∀ a b:Int × (List Int),(fun (s,l)=>([.agg [.int .i64 s,.sl (l.map aa)]]:List Data)) a=(fun (s,l)=>([.agg [.int .i64 s,.sl (l.map aa)]]:List Data)) b→a=b:=by
  rintro⟨s1,l1⟩ ⟨s2,l2⟩ h;simp only[List.cons.injEq,Data.agg.injEq,Data.int.injEq,Data.sl.injEq] at h;exact YO h.1.1.2 (af aj _ _ h.1.2.1)
@[go_sem] theorem Qt (s:Int) (l:List Int) (hc:l.length≤1000000):DH [.agg [.int .i64 s,.sl (l.map aa)]]=some (.same (.bool (Em (s,l)))):=(aV CE (s,l)).trans (ak hc _)
theorem Pg (T:Tab) (Ct:T pA=mkE uw) (s:Int) (l:List Int) (hc:l.length≤1000000) :
  wp T mf_frac_one.body (bt mf_frac_one.res (.same (.bool (Em (s,l))))) ⟨aw [.dat (.agg [.int .i64 s,.sl (l.map aa)])],emp⟩:=by
 refine ao ?_;simp only[mf_frac_one];unfold Em;rcases h:(qD (s,l)).2
 ·refine qI ?_
  repeat' (intro h<;>simp only[h,go_sem,go_sem_proc,YP,Ct,hc,h]<;>try refine qS ?_ ?_)
 ·refine qI ?_
  repeat' (intro h<;>simp only[h,go_sem,go_sem_proc,YP,Ct,hc,h]<;>try refine qS ?_ ?_)
noncomputable def eU:List Data→Option PRes:=FF (α:=Int × (List Int) × Int × (List Int)) (fun (s,l,s2,l2)=>([.agg [.int .i64 s,.sl (l.map aa),.int .i64 s2,.sl (l2.map aa)]]:List Data)) (fun (s,l,s2,l2)=>aG (l.length≤1000000∧l2.length≤1000000) (.same (.bool (bb ((s,l),(s2,l2))))))
theorem yk:∀ a b:Int × (List Int) × Int × (List Int),(fun (s,l,s2,l2)=>([.agg [.int .i64 s,.sl (l.map aa),.int .i64 s2,.sl (l2.map aa)]]:List Data)) a=(fun (s,l,s2,l2)=>([.agg [.int .i64 s,.sl (l.map aa),.int .i64 s2,.sl (l2.map aa)]]:List Data)) b→a=b:=by
  rintro⟨s1,l1,s21,l21⟩ ⟨s2,l2,s22,l22⟩ h;simp only[List.cons.injEq,Data.agg.injEq,Data.int.injEq,Data.sl.injEq] at h;exact YO h.1.1.2 (YO (af aj _ _ h.1.2.1) (YO h.1.2.2.1.2 (af aj _ _ h.1.2.2.2.1)))
@[go_sem] theorem A7 (s:Int) (l:List Int) (s2:Int) (l2:List Int) (hc:l.length≤1000000∧l2.length≤1000000):eU [.agg [.int .i64 s,.sl (l.map aa),.int .i64 s2,.sl (l2.map aa)]]=some (.same (.bool (bb ((s,l),(s2,l2))))):=(aV yk (s,l,s2,l2)).trans (ak hc _)
theorem Ju (T:Tab) (ax:T aY=mkE dX) (pe:T kC=mkE Fk) (yh:T oi=mkE DH) (s:Int) (l:List Int) (s2:Int) (l2:List Int) (hc:l.length≤1000000∧l2.length≤1000000) :
  wp T mf_frac_Right.body (bt mf_frac_Right.res (.same (.bool (bb ((s,l),(s2,l2)))))) ⟨aw [.dat (.agg [.int .i64 s,.sl (l.map aa),.int .i64 s2,.sl (l2.map aa)])],emp⟩:=by
 refine ao ?_;simp only[mf_frac_Right];obtain⟨hl1,hl2⟩:=hc
 by_cases hr:aJ (s,l)=true
 ·by_cases hr2:aJ (s2,l2)=true
  ·by_cases hs:s2=1
   ·obtain⟨x,hx,e⟩:=(be _).1 hr
    obtain⟨y,hy,e2⟩:=(be _).1 hr2
    have hg:ke (s,l) (s2,l2)=(aP ((ZC x.natAbs y.natAbs:Nat):Int),0):=by
     unfold ke;rw[hr,hr2,e,e2,aR,aR];rfl
    have hgl:=qX hx hy
    have ho:Em (aP ((ZC x.natAbs y.natAbs:Nat):Int))=(ZC x.natAbs y.natAbs==1):=by
     rw[JG (by rw[YN];exact hgl)];rw[Bool.eq_iff_iff];simp;omega
    have hv1:gy (s,l)=x:=by rw[e,aR]
    have hv2:gy (s2,l2)=y:=by rw[e2,aR]
    have hR:bb ((s,l),(s2,l2))=(ZC x.natAbs y.natAbs==1):=by
     show (aJ (s,l)&&(aJ (s2,l2)&&((s2==1)&&(ZC (gy (s,l)).natAbs (gy (s2,l2)).natAbs==1))))=_;rw[hr,hr2,hv1,hv2,show (s2==1)=true by simpa using hs]
     simp only[ZG]
    have hgl2:((aP ((ZC x.natAbs y.natAbs:Nat):Int)).2).length≤1000000:=eN (by rw[YN];exact hgl);rw[hR,←ho];generalize aP ((ZC x.natAbs y.natAbs:Nat):Int)=G at *;obtain⟨g1,g2⟩:=G;have hs':(s2==1)=true:=by simpa using hs
    refine qI ?_
    repeat' (intro h<;>simp only[h,go_sem,go_sem_proc,YP,ax,pe,yh,hr,hr2,hl1,hl2,hs',hg,hgl2,eh,bY,show ((0:Int)==0)=true from rfl]<;>try refine qS ?_ ?_)
   ·have hR:bb ((s,l),(s2,l2))=false:=by unfold bb;simp [hs]
    have hs':(s2==1)=false:=by simpa using hs
    rw[hR];refine qI ?_
    repeat' (intro h<;>simp only[h,go_sem,go_sem_proc,YP,ax,pe,yh,hr,hr2,hl1,hl2,hs']<;>try refine qS ?_ ?_)
  ·have hr2:aJ (s2,l2)=false:=by simpa using hr2
   have hR:bb ((s,l),(s2,l2))=false:=by unfold bb;simp [hr2]
   rw[hR];refine qI ?_
   repeat' (intro h<;>simp only[h,go_sem,go_sem_proc,YP,ax,pe,yh,hr,hr2,hl1,hl2]<;>try refine qS ?_ ?_)
 ·have hr:aJ (s,l)=false:=by simpa using hr
  have hR:bb ((s,l),(s2,l2))=false:=by unfold bb;simp [hr]
  rw[hR];refine qI ?_
  repeat' (intro h<;>simp only[h,go_sem,go_sem_proc,YP,ax,pe,yh,hr,hl1,hl2]<;>try refine qS ?_ ?_)
def fD (p q:Raw):aE × Int :=
 if (aJ p&&aJ q)=true then (if gy q=0 then (bO,15) else (ah (ZD (gy p) (gy q)),0)) else (bO,1)
theorem iR {p q:Int} (hp:p.natAbs<LIM) (hq:q.natAbs<LIM) (h0:q≠0):fD (aP p) (aP q)=(ah (ZD p q),0):=by
 unfold fD;rw[bF hp,bF hq,aR,aR,if_pos (by rfl),if_neg h0]
theorem na {p q:Int} (hq:0<q):(ZD p q).num=p.fdiv ((ZC p.natAbs q.natAbs:Nat):Int)∧((ZD p q).den:Int)=q.fdiv ((ZC p.natAbs q.natAbs:Nat):Int):=by
 rw[Rat.num_divInt,Rat.den_divInt,if_neg (by omega),YW hq,YF];have hg:q.gcd p=ZC p.natAbs q.natAbs:=by rw[Int.gcd_comm];rfl;rw[hg];have h0:(0:Int)≤((ZC p.natAbs q.natAbs:Nat):Int):=Int.natCast_nonneg _;rw[ZH _ h0,ZH _ h0];refine⟨rfl,?_⟩;rw[Int.natCast_ediv]
 congr 1
 omega
theorem tY {p q:Int} (hq:q≠0):0<ZC p.natAbs q.natAbs:=Nat.gcd_pos_of_pos_right _ (by omega)
theorem mY {p q:Int} (hp:p.natAbs<LIM) (hq:q.natAbs<LIM):bX (ZD p q):=by
 have main:∀ {p q:Int},p.natAbs<LIM→q.natAbs<LIM→0<q→bX (ZD p q):=by
  intro p q hp hq h0;obtain⟨h1,h2⟩:=na (p:=p) h0;have hg:=tY (p:=p) (q:=q) (by omega);refine⟨?_,?_⟩
  ·rw[h1];exact mh hp (by omega)
  ·have:=mh (y:=((ZC p.natAbs q.natAbs:Nat):Int)) hq (by omega)
   rw[←h2,YN] at this;exact this
 rcases ZJ q 0 with h | h | h
 ·rw[←ZK]
  exact main (by omega) (by omega) (by omega)
 ·subst h
  rw[Rat.divInt_zero];unfold bX LIM;exact⟨Nat.pow_pos (by omega),Nat.one_lt_pow (by omega) (by omega)⟩
 ·exact main hp hq h
noncomputable def yZ:List Data→Option PRes:=FF (α:=Int × (List Int) × Int × (List Int)) (fun (s,l,s2,l2)=>([.agg [.int .i64 s,.sl (l.map aa)],.agg [.int .i64 s2,.sl (l2.map aa)]]:List Data)) (fun (s,l,s2,l2)=>aG (l.length≤1000000∧l2.length≤1000000) (.same (bz (fD (s,l) (s2,l2)))))
theorem Cw:∀ a b:Int × (List Int) × Int × (List Int),(fun (s,l,s2,l2)=>([.agg [.int .i64 s,.sl (l.map aa)],.agg [.int .i64 s2,.sl (l2.map aa)]]:List Data)) a=(fun (s,l,s2,l2)=>([.agg [.int .i64 s,.sl (l.map aa)],.agg [.int .i64 s2,.sl (l2.map aa)]]:List Data)) b→a=b:=by
  rintro⟨s1,l1,s21,l21⟩ ⟨s2,l2,s22,l22⟩ h;simp only[List.cons.injEq,Data.agg.injEq,Data.int.injEq,Data.sl.injEq] at h;exact YO h.1.1.2 (YO (af aj _ _ h.1.2.1) (YO h.2.1.1.2 (af aj _ _ h.2.1.2.1)))
@[go_sem] theorem P8 (s:Int) (l:List Int) (s2:Int) (l2:List Int) (hc:l.length≤1000000∧l2.length≤1000000):yZ [.agg [.int .i64 s,.sl (l.map aa)],.agg [.int .i64 s2,.sl (l2.map aa)]]=some (.same (bz (fD (s,l) (s2,l2)))):=(aV Cw (s,l,s2,l2)).trans (ak hc _)
theorem OV (T:Tab) (ax:T aY=mkE dX) (qe:T jl=mkE FA) (pe:T kC=mkE Fk) (jV:T ir=mkE EN) (s:Int) (l:List Int) (s2:Int) (l2:List Int) (hc:l.length≤1000000∧l2.length≤1000000) :
  wp T mf_frac_New.body (bt mf_frac_New.res (.same (bz (fD (s,l) (s2,l2))))) ⟨aw [.dat (.agg [.int .i64 s,.sl (l.map aa)]),.dat (.agg [.int .i64 s2,.sl (l2.map aa)])],emp⟩:=by
 refine ao ?_;simp only[mf_frac_New];obtain⟨hl1,hl2⟩:=hc
 by_cases hr:aJ (s,l)=true
 ·by_cases hr2:aJ (s2,l2)=true
  ·obtain⟨x,hx,e⟩:=(be _).1 hr
   obtain⟨y,hy,e2⟩:=(be _).1 hr2
   by_cases h0:y=0
   ·have hm:fD (s,l) (s2,l2)=(bO,15):=by
     unfold fD;rw[hr,hr2,e2,aR,if_pos (by rfl),if_pos h0]
    rw[hm]
    cases e
    cases e2;have hs:(y.sign==0)=true:=by rw[h0];rfl;refine qI ?_
    repeat' (intro h<;>simp only[h,go_sem,go_sem_proc,YP,ax,qe,pe,jV,hr,hr2,hl1,hl2,hs,bz,ad,bO,YQ]<;>try refine qS ?_ ?_)
   ·have main:∀ p q:Int,p.natAbs<LIM→q.natAbs<LIM→0<q→∃ g:Raw,ke (aP p) (aP q)=(g,0)∧g.2.length≤1000000∧jo (aP p) g=(aP (ZD p q).num,aP (p.fmod ((ZC p.natAbs q.natAbs:Nat):Int)),0)∧jo (aP q) g=(aP (ZD p q).den,aP (q.fmod ((ZC p.natAbs q.natAbs:Nat):Int)),0):=by
     intro p q hp hq hq0;have hgl:=qX hp hq;have hgl':((ZC p.natAbs q.natAbs:Nat):Int).natAbs<LIM:=by rw[YN];exact hgl;have hg0:=tY (p:=p) (q:=q) (by omega);obtain⟨h1,h2⟩:=na (p:=p) hq0;refine⟨aP ((ZC p.natAbs q.natAbs:Nat):Int),?_,eN hgl',?_,?_⟩
     ·unfold ke;rw[bF hp,bF hq,aR,aR];rfl
     ·rw[kv hp hgl' (by omega),h1]
     ·rw[kv hq hgl' (by omega),h2]
    have hs0:(y.sign==0)=false:=by simpa using h0
    rcases Int.lt_or_gt_of_ne h0 with hneg | hpos
    ·have hs1:decide (y.sign<0)=true:=by rw[Y5 hneg];rfl
     obtain⟨⟨g1,g2⟩,hg,hgl,hd1,hd2⟩:=main (-x) (-y) (by omega) (by omega) (by omega)
     have hm:fD (s,l) (s2,l2)=(ah (ZD (-x) (-y)),0):=by
      rw[e,e2,iR hx hy h0,ZK]
     rw[hm];have hn1:iG (s,l)=aP (-x):=by unfold iG;rw[if_pos hr,e,aR];have hn2:iG (s2,l2)=aP (-y):=by unfold iG;rw[if_pos hr2,e2,aR];have hy1:s2=y.sign:=congrArg ZL e2;have hl3:(aP (-x)).2.length≤1000000:=eN (by omega);have hl4:(aP (-y)).2.length≤1000000:=eN (by omega);clear e e2;unfold ah;generalize aP (-x)=X at *;generalize aP (-y)=Y at *;obtain⟨x1,x2⟩:=X;obtain⟨y1,y2⟩:=Y;rw[←hy1] at hs0 hs1;refine qI ?_
     repeat' (intro h<;>simp only[h,go_sem,go_sem_proc,YP,ax,qe,pe,jV,hr,hr2,hl1,hl2,hs0,hs1,hn1,hn2,hl3,hl4,hg,hgl,hd1,hd2,bz,ad,eh,fb,bY]<;>try refine qS ?_ ?_)
    ·have hs1:decide (y.sign<0)=false:=by rw[YW hpos];rfl
     obtain⟨⟨g1,g2⟩,hg,hgl,hd1,hd2⟩:=main x y hx hy hpos
     have hm:fD (s,l) (s2,l2)=(ah (ZD x y),0):=by
      rw[e,e2,iR hx hy h0]
     rw[hm];have hy1:s2=y.sign:=congrArg ZL e2;rw[←e] at hg hd1;rw[←e2] at hg hd2;rw[←hy1] at hs0 hs1;unfold ah;refine qI ?_
     repeat' (intro h<;>simp only[h,go_sem,go_sem_proc,YP,ax,qe,pe,jV,hr,hr2,hl1,hl2,hs0,hs1,hg,hgl,hd1,hd2,bz,ad,eh,fb,bY]<;>try refine qS ?_ ?_)
  ·have hr2:aJ (s2,l2)=false:=by simpa using hr2
   have hm:fD (s,l) (s2,l2)=(bO,1):=by unfold fD;rw[hr2,Y0];rfl
   rw[hm];refine qI ?_
   repeat' (intro h<;>simp only[h,go_sem,go_sem_proc,YP,ax,qe,pe,jV,hr,hr2,hl1,hl2,bz,ad,bO,YQ]<;>try refine qS ?_ ?_)
 ·have hr:aJ (s,l)=false:=by simpa using hr
  have hm:fD (s,l) (s2,l2)=(bO,1):=by unfold fD;rw[hr,Y1];rfl
  rw[hm];refine qI ?_
  repeat' (intro h<;>simp only[h,go_sem,go_sem_proc,YP,ax,qe,pe,jV,hr,hl1,hl2,bz,ad,bO,YQ]<;>try refine qS ?_ ?_)
noncomputable def Bz:List Data→Option PRes:=FF (α:=Int × Int) (fun (p,q)=>([.int .i64 p,.int .i64 q]:List Data)) (fun (p,q)=>aG (bZ p∧bZ q) (.same (bz (fD (aP p) (aP q)))))
theorem GH:∀ a b:Int × Int,(fun (p,q)=>([.int .i64 p,.int .i64 q]:List Data)) a=(fun (p,q)=>([.int .i64 p,.int .i64 q]:List Data)) b→a=b:=by
  rintro⟨p1,q1⟩ ⟨p2,q2⟩ h;simp only[List.cons.injEq,Data.int.injEq,Data.agg.injEq,Data.sl.injEq,Data.bool.injEq,Data.str.injEq,Data.ptr.injEq,Data.tup.injEq,Prod.mk.injEq,true_and,and_true] at h ⊢
  first | exact h | simpa [Y2,and_assoc] using h | grind
@[go_sem] theorem II (p:Int) (q:Int) (hc:bZ p∧bZ q):Bz [.int .i64 p,.int .i64 q]=some (.same (bz (fD (aP p) (aP q)))):=(aV GH (p,q)).trans (ak hc _)
theorem Q3 (T:Tab) (LJ:T oA=mkE y0) (vt:T jK=mkE yZ) (p:Int) (q:Int) (hc:bZ p∧bZ q) :
  wp T mf_frac_Of.body (bt mf_frac_Of.res (.same (bz (fD (aP p) (aP q))))) ⟨aw [.dat (.int .i64 p),.dat (.int .i64 q)],emp⟩:=by
 refine ao ?_;simp only[mf_frac_Of];obtain⟨h1,h2⟩:=hc;have l1:(aP p).2.length≤1000000:=eN (jw h1);have l2:(aP q).2.length≤1000000:=eN (jw h2);generalize hP:aP p=P at *;generalize hQ:aP q=Q at *;obtain⟨x1,x2⟩:=P;obtain⟨y1,y2⟩:=Q;refine qI ?_
 repeat' (intro h<;>simp only[h,go_sem,go_sem_proc,YP,LJ,vt,h1,h2,hP,hQ,l1,l2,bY,bz,ad]<;>try refine qS ?_ ?_)
def uB (a b c d:Raw):Raw × Int :=
 if ((gh a b).2==0)=true then (if ((gh c d).2==0)=true then qY (gh a b).1 (gh c d).1 else ((0,[]),(gh c d).2)) else ((0,[]),(gh a b).2)
theorem wl (z:Int):(lv z).1.2.length≤1000000:=by
 unfold lv
 split
 ·exact eN (by assumption)
 ·simp
theorem kP (a b:Raw):(gh a b).1.2.length≤1000000:=by
 unfold gh
 split
 ·exact wl _
 ·simp
theorem KC (a b:Raw):(qY a b).1.2.length≤1000000:=by
 unfold qY
 split
 ·exact wl _
 ·simp
theorem Jy (a b c d:Raw):(uB a b c d).1.2.length≤1000000:=by
 unfold uB
 split
 ·split
  ·exact KC _ _
  ·simp
 ·simp
noncomputable def DY:List Data→Option PRes:=FF (α:=Int × (List Int) × Int × (List Int) × Int × (List Int) × Int × (List Int)) (fun (s,l,s2,l2,s3,l3,s4,l4)=>([.agg [.int .i64 s,.sl (l.map aa)],.agg [.int .i64 s2,.sl (l2.map aa)],.agg [.int .i64 s3,.sl (l3.map aa)],.agg [.int .i64 s4,.sl (l4.map aa)]]:List Data)) (fun (s,l,s2,l2,s3,l3,s4,l4)=>aG (l.length≤1000000∧l2.length≤1000000∧l3.length≤1000000∧l4.length≤1000000) (.same (eh (uB (s,l) (s2,l2) (s3,l3) (s4,l4)))))
theorem Dr:∀ a b:Int × (List Int) × Int × (List Int) × Int × (List Int) × Int × (List Int),(fun (s,l,s2,l2,s3,l3,s4,l4)=>([.agg [.int .i64 s,.sl (l.map aa)],.agg [.int .i64 s2,.sl (l2.map aa)],.agg [.int .i64 s3,.sl (l3.map aa)],.agg [.int .i64 s4,.sl (l4.map aa)]]:List Data)) a=(fun (s,l,s2,l2,s3,l3,s4,l4)=>([.agg [.int .i64 s,.sl (l.map aa)],.agg [.int .i64 s2,.sl (l2.map aa)],.agg [.int .i64 s3,.sl (l3.map aa)],.agg [.int .i64 s4,.sl (l4.map aa)]]:List Data)) b→a=b:=by
  rintro⟨s1,l1,s21,l21,s31,l31,s41,l41⟩ ⟨s2,l2,s22,l22,s32,l32,s42,l42⟩ h;simp only[List.cons.injEq,Data.agg.injEq,Data.int.injEq,Data.sl.injEq] at h;exact YO h.1.1.2 (YO (af aj _ _ h.1.2.1) (YO h.2.1.1.2 (YO (af aj _ _ h.2.1.2.1) (YO h.2.2.1.1.2 (YO (af aj _ _ h.2.2.1.2.1) (YO h.2.2.2.1.1.2 (af aj _ _ h.2.2.2.1.2.1)))))))
@[go_sem] theorem Qx (s:Int) (l:List Int) (s2:Int) (l2:List Int) (s3:Int) (l3:List Int) (s4:Int) (l4:List Int) (hc:l.length≤1000000∧l2.length≤1000000∧l3.length≤1000000∧l4.length≤1000000):DY [.agg [.int .i64 s,.sl (l.map aa)],.agg [.int .i64 s2,.sl (l2.map aa)],.agg [.int .i64 s3,.sl (l3.map aa)],.agg [.int .i64 s4,.sl (l4.map aa)]]=some (.same (eh (uB (s,l) (s2,l2) (s3,l3) (s4,l4)))):=(aV Dr (s,l,s2,l2,s3,l3,s4,l4)).trans (ak hc _)
theorem OF (T:Tab) (jX:T dH=mkE wX) (Kl:T pS=mkE IB) (s:Int) (l:List Int) (s2:Int) (l2:List Int) (s3:Int) (l3:List Int) (s4:Int) (l4:List Int) (hc:l.length≤1000000∧l2.length≤1000000∧l3.length≤1000000∧l4.length≤1000000) :
  wp T mf_frac_sum.body (bt mf_frac_sum.res (.same (eh (uB (s,l) (s2,l2) (s3,l3) (s4,l4))))) ⟨aw [.dat (.agg [.int .i64 s,.sl (l.map aa)]),.dat (.agg [.int .i64 s2,.sl (l2.map aa)]),.dat (.agg [.int .i64 s3,.sl (l3.map aa)]),.dat (.agg [.int .i64 s4,.sl (l4.map aa)])],emp⟩:=by
 refine ao ?_;simp only[mf_frac_sum];obtain⟨hl1,hl2,hl3,hl4⟩:=hc;have m1:=kP (s,l) (s2,l2);have m2:=kP (s3,l3) (s4,l4);unfold uB;generalize hM1:gh (s,l) (s2,l2)=M1 at *;generalize hM2:gh (s3,l3) (s4,l4)=M2 at *;obtain⟨⟨a1,a2⟩,e1⟩:=M1;obtain⟨⟨b1,b2⟩,e2⟩:=M2;rcases h1:(e1==0)
 ·refine qI ?_
  repeat' (intro h<;>simp only[h,go_sem,go_sem_proc,YP,jX,Kl,hl1,hl2,hl3,hl4,hM1,h1,m1,m2,eh,bY,YQ]<;>try refine qS ?_ ?_)
 ·have z1:e1=0:=by simpa using h1
  subst z1;rcases h2:(e2==0)
  ·refine qI ?_
   repeat' (intro h<;>simp only[h,go_sem,go_sem_proc,YP,jX,Kl,hl1,hl2,hl3,hl4,hM1,hM2,h1,h2,m1,m2,eh,bY,YQ]<;>try refine qS ?_ ?_)
  ·have z2:e2=0:=by simpa using h2
   subst z2;refine qI ?_
   repeat' (intro h<;>simp only[h,go_sem,go_sem_proc,YP,jX,Kl,hl1,hl2,hl3,hl4,hM1,hM2,h1,m1,m2,eh,bY,YQ]<;>try refine qS ?_ ?_)
def ny (p:Raw × Int) (q:Raw × Int):aE × Int:=if (p.2==0)=true then (if (q.2==0)=true then fD p.1 q.1 else (bO,6)) else (bO,6)
noncomputable def qj:List Data→Option PRes:=FF (α:=Int × (List Int) × Int × Int × (List Int) × Int) (fun (s,l,e,s2,l2,e2)=>([.agg [.int .i64 s,.sl (l.map aa)],.int .i64 e,.agg [.int .i64 s2,.sl (l2.map aa)],.int .i64 e2]:List Data)) (fun (s,l,e,s2,l2,e2)=>aG (l.length≤1000000∧l2.length≤1000000) (.same (bz (ny ((s,l),e) ((s2,l2),e2)))))
theorem Cv:∀ a b:Int × (List Int) × Int × Int × (List Int) × Int,(fun (s,l,e,s2,l2,e2)=>([.agg [.int .i64 s,.sl (l.map aa)],.int .i64 e,.agg [.int .i64 s2,.sl (l2.map aa)],.int .i64 e2]:List Data)) a=(fun (s,l,e,s2,l2,e2)=>([.agg [.int .i64 s,.sl (l.map aa)],.int .i64 e,.agg [.int .i64 s2,.sl (l2.map aa)],.int .i64 e2]:List Data)) b→a=b:=by
  rintro⟨s1,l1,e1,s21,l21,e21⟩ ⟨s2,l2,e2,s22,l22,e22⟩ h;simp only[List.cons.injEq,Data.agg.injEq,Data.int.injEq,Data.sl.injEq] at h;exact YO h.1.1.2 (YO (af aj _ _ h.1.2.1) (YO h.2.1.2 (YO h.2.2.1.1.2 (YO (af aj _ _ h.2.2.1.2.1) h.2.2.2.1.2))))
@[go_sem] theorem PN (s:Int) (l:List Int) (e:Int) (s2:Int) (l2:List Int) (e2:Int) (hc:l.length≤1000000∧l2.length≤1000000):qj [.agg [.int .i64 s,.sl (l.map aa)],.int .i64 e,.agg [.int .i64 s2,.sl (l2.map aa)],.int .i64 e2]=some (.same (bz (ny ((s,l),e) ((s2,l2),e2)))):=(aV Cv (s,l,e,s2,l2,e2)).trans (ak hc _)
theorem My (T:Tab) (vt:T jK=mkE yZ) (s:Int) (l:List Int) (e:Int) (s2:Int) (l2:List Int) (e2:Int) (hc:l.length≤1000000∧l2.length≤1000000) :
  wp T mf_frac_quotient.body (bt mf_frac_quotient.res (.same (bz (ny ((s,l),e) ((s2,l2),e2))))) ⟨aw [.dat (.agg [.int .i64 s,.sl (l.map aa)]),.dat (.int .i64 e),.dat (.agg [.int .i64 s2,.sl (l2.map aa)]),.dat (.int .i64 e2)],emp⟩:=by
 refine ao ?_;simp only[mf_frac_quotient];obtain⟨hl1,hl2⟩:=hc;unfold ny;rcases h1:(e==0)
 ·refine qI ?_
  repeat' (intro h<;>simp only[h,go_sem,go_sem_proc,YP,vt,hl1,hl2,h1,bz,ad,bO,YQ]<;>try refine qS ?_ ?_)
 ·have z1:e=0:=by simpa using h1
  subst z1;rcases h2:(e2==0)
  ·refine qI ?_
   repeat' (intro h<;>simp only[h,go_sem,go_sem_proc,YP,vt,hl1,hl2,h1,h2,bz,ad,bO,YQ]<;>try refine qS ?_ ?_)
  ·have z2:e2=0:=by simpa using h2
   subst z2;refine qI ?_
   repeat' (intro h<;>simp only[h,go_sem,go_sem_proc,YP,vt,hl1,hl2,h1,bz,ad,bO,YQ]<;>try refine qS ?_ ?_)
def sV (a b:aE):aE × Int:=if bb a=true then (if bb b=true then ny (uB a.1 b.2 b.1 a.2) (gh a.2 b.2) else (bO,1)) else (bO,1)
def nC (a b:aE):aE × Int:=if bb a=true then (if bb b=true then sV a (iG b.1,b.2) else (bO,1)) else (bO,1)
def mG (a b:aE):aE × Int:=if bb a=true then (if bb b=true then ny (gh a.1 b.1) (gh a.2 b.2) else (bO,1)) else (bO,1)
def iV (a b:aE):aE × Int:=if bb a=true then (if bb b=true then (if (b.1.1==0)=true then (bO,15) else ny (gh a.1 b.2) (gh a.2 b.1)) else (bO,1)) else (bO,1)
theorem Kj (a:Raw) (h:a.2.length≤1000000):(iG a).2.length≤1000000:=by
 unfold iG
 split
 ·rename_i hr
  obtain⟨z,hz,e⟩:=(be _).1 hr;rw[e,aR];exact eN (by omega)
 ·simp
noncomputable def kL:List Data→Option PRes:=FF (α:=Int × (List Int) × Int × (List Int) × Int × (List Int) × Int × (List Int)) (fun (s,l,s2,l2,s3,l3,s4,l4)=>([.agg [.int .i64 s,.sl (l.map aa),.int .i64 s2,.sl (l2.map aa)],.agg [.int .i64 s3,.sl (l3.map aa),.int .i64 s4,.sl (l4.map aa)]]:List Data)) (fun (s,l,s2,l2,s3,l3,s4,l4)=>aG (l.length≤1000000∧l2.length≤1000000∧l3.length≤1000000∧l4.length≤1000000) (.same (bz (sV ((s,l),(s2,l2)) ((s3,l3),(s4,l4))))))
theorem C5:∀ a b:Int × (List Int) × Int × (List Int) × Int × (List Int) × Int × (List Int),(fun (s,l,s2,l2,s3,l3,s4,l4)=>([.agg [.int .i64 s,.sl (l.map aa),.int .i64 s2,.sl (l2.map aa)],.agg [.int .i64 s3,.sl (l3.map aa),.int .i64 s4,.sl (l4.map aa)]]:List Data)) a=(fun (s,l,s2,l2,s3,l3,s4,l4)=>([.agg [.int .i64 s,.sl (l.map aa),.int .i64 s2,.sl (l2.map aa)],.agg [.int .i64 s3,.sl (l3.map aa),.int .i64 s4,.sl (l4.map aa)]]:List Data)) b→a=b:=by
  rintro⟨s1,l1,s21,l21,s31,l31,s41,l41⟩ ⟨s2,l2,s22,l22,s32,l32,s42,l42⟩ h;simp only[List.cons.injEq,Data.agg.injEq,Data.int.injEq,Data.sl.injEq] at h;exact YO h.1.1.2 (YO (af aj _ _ h.1.2.1) (YO h.1.2.2.1.2 (YO (af aj _ _ h.1.2.2.2.1) (YO h.2.1.1.2 (YO (af aj _ _ h.2.1.2.1) (YO h.2.1.2.2.1.2 (af aj _ _ h.2.1.2.2.2.1)))))))
@[go_sem] theorem w8 (s:Int) (l:List Int) (s2:Int) (l2:List Int) (s3:Int) (l3:List Int) (s4:Int) (l4:List Int) (hc:l.length≤1000000∧l2.length≤1000000∧l3.length≤1000000∧l4.length≤1000000):kL [.agg [.int .i64 s,.sl (l.map aa),.int .i64 s2,.sl (l2.map aa)],.agg [.int .i64 s3,.sl (l3.map aa),.int .i64 s4,.sl (l4.map aa)]]=some (.same (bz (sV ((s,l),(s2,l2)) ((s3,l3),(s4,l4))))):=(aV C5 (s,l,s2,l2,s3,l3,s4,l4)).trans (ak hc _)
theorem Pe (T:Tab) (aF:T aQ=mkE eU) (Eh:T nI=mkE DY) (jX:T dH=mkE wX) (ib:T dy=mkE qj) (s:Int) (l:List Int) (s2:Int) (l2:List Int) (s3:Int) (l3:List Int) (s4:Int) (l4:List Int) (hc:l.length≤1000000∧l2.length≤1000000∧l3.length≤1000000∧l4.length≤1000000) :
  wp T mf_frac_Add.body (bt mf_frac_Add.res (.same (bz (sV ((s,l),(s2,l2)) ((s3,l3),(s4,l4)))))) ⟨aw [.dat (.agg [.int .i64 s,.sl (l.map aa),.int .i64 s2,.sl (l2.map aa)]),.dat (.agg [.int .i64 s3,.sl (l3.map aa),.int .i64 s4,.sl (l4.map aa)])],emp⟩:=by
 refine ao ?_;simp only[mf_frac_Add];obtain⟨hl1,hl2,hl3,hl4⟩:=hc;unfold sV
 by_cases hr:bb ((s,l),(s2,l2))=true
 ·by_cases hr2:bb ((s3,l3),(s4,l4))=true
  ·have m1:=Jy (s,l) (s4,l4) (s3,l3) (s2,l2)
   have m2:=kP (s2,l2) (s4,l4);rw[if_pos hr,if_pos hr2];dsimp only;generalize hM1:uB (s,l) (s4,l4) (s3,l3) (s2,l2)=M1 at *;generalize hM2:gh (s2,l2) (s4,l4)=M2 at *;obtain⟨⟨a1,a2⟩,e1⟩:=M1;obtain⟨⟨b1,b2⟩,e2⟩:=M2;refine qI ?_
   repeat' (intro h<;>simp only[h,go_sem,go_sem_proc,YP,aF,Eh,jX,ib,hl1,hl2,hl3,hl4,hr,hr2,hM1,hM2,m1,m2,eh,bY,bz,ad]<;>try refine qS ?_ ?_)
  ·have hr2:bb ((s3,l3),(s4,l4))=false:=by simpa using hr2
   rw[if_pos hr,if_neg (by simp [hr2])];refine qI ?_
   repeat' (intro h<;>simp only[h,go_sem,go_sem_proc,YP,aF,Eh,jX,ib,hl1,hl2,hl3,hl4,hr,hr2,bz,ad,bO,YQ]<;>try refine qS ?_ ?_)
 ·have hr:bb ((s,l),(s2,l2))=false:=by simpa using hr
  rw[if_neg (by simp [hr])];refine qI ?_
  repeat' (intro h<;>simp only[h,go_sem,go_sem_proc,YP,aF,Eh,jX,ib,hl1,hl2,hl3,hl4,hr,bz,ad,bO,YQ]<;>try refine qS ?_ ?_)
noncomputable def kA:List Data→Option PRes:=FF (α:=Int × (List Int) × Int × (List Int) × Int × (List Int) × Int × (List Int)) (fun (s,l,s2,l2,s3,l3,s4,l4)=>([.agg [.int .i64 s,.sl (l.map aa),.int .i64 s2,.sl (l2.map aa)],.agg [.int .i64 s3,.sl (l3.map aa),.int .i64 s4,.sl (l4.map aa)]]:List Data)) (fun (s,l,s2,l2,s3,l3,s4,l4)=>aG (l.length≤1000000∧l2.length≤1000000∧l3.length≤1000000∧l4.length≤1000000) (.same (bz (nC ((s,l),(s2,l2)) ((s3,l3),(s4,l4))))))
theorem Dj:∀ a b:Int × (List Int) × Int × (List Int) × Int × (List Int) × Int × (List Int),(fun (s,l,s2,l2,s3,l3,s4,l4)=>([.agg [.int .i64 s,.sl (l.map aa),.int .i64 s2,.sl (l2.map aa)],.agg [.int .i64 s3,.sl (l3.map aa),.int .i64 s4,.sl (l4.map aa)]]:List Data)) a=(fun (s,l,s2,l2,s3,l3,s4,l4)=>([.agg [.int .i64 s,.sl (l.map aa),.int .i64 s2,.sl (l2.map aa)],.agg [.int .i64 s3,.sl (l3.map aa),.int .i64 s4,.sl (l4.map aa)]]:List Data)) b→a=b:=by
  rintro⟨s1,l1,s21,l21,s31,l31,s41,l41⟩ ⟨s2,l2,s22,l22,s32,l32,s42,l42⟩ h;simp only[List.cons.injEq,Data.agg.injEq,Data.int.injEq,Data.sl.injEq] at h;exact YO h.1.1.2 (YO (af aj _ _ h.1.2.1) (YO h.1.2.2.1.2 (YO (af aj _ _ h.1.2.2.2.1) (YO h.2.1.1.2 (YO (af aj _ _ h.2.1.2.1) (YO h.2.1.2.2.1.2 (af aj _ _ h.2.1.2.2.2.1)))))))
@[go_sem] theorem FP (s:Int) (l:List Int) (s2:Int) (l2:List Int) (s3:Int) (l3:List Int) (s4:Int) (l4:List Int) (hc:l.length≤1000000∧l2.length≤1000000∧l3.length≤1000000∧l4.length≤1000000):kA [.agg [.int .i64 s,.sl (l.map aa),.int .i64 s2,.sl (l2.map aa)],.agg [.int .i64 s3,.sl (l3.map aa),.int .i64 s4,.sl (l4.map aa)]]=some (.same (bz (nC ((s,l),(s2,l2)) ((s3,l3),(s4,l4))))):=(aV Dj (s,l,s2,l2,s3,l3,s4,l4)).trans (ak hc _)
theorem Oh (T:Tab) (aF:T aQ=mkE eU) (qe:T jl=mkE FA) (cf:T cB=mkE kL) (s:Int) (l:List Int) (s2:Int) (l2:List Int) (s3:Int) (l3:List Int) (s4:Int) (l4:List Int) (hc:l.length≤1000000∧l2.length≤1000000∧l3.length≤1000000∧l4.length≤1000000) :
  wp T mf_frac_Sub.body (bt mf_frac_Sub.res (.same (bz (nC ((s,l),(s2,l2)) ((s3,l3),(s4,l4)))))) ⟨aw [.dat (.agg [.int .i64 s,.sl (l.map aa),.int .i64 s2,.sl (l2.map aa)]),.dat (.agg [.int .i64 s3,.sl (l3.map aa),.int .i64 s4,.sl (l4.map aa)])],emp⟩:=by
 refine ao ?_;simp only[mf_frac_Sub];obtain⟨hl1,hl2,hl3,hl4⟩:=hc;unfold nC
 by_cases hr:bb ((s,l),(s2,l2))=true
 ·by_cases hr2:bb ((s3,l3),(s4,l4))=true
  ·have m1:=Kj (s3,l3) hl3
   rw[if_pos hr,if_pos hr2];dsimp only;generalize hM1:iG (s3,l3)=M1 at *;obtain⟨a1,a2⟩:=M1;refine qI ?_
   repeat' (intro h<;>simp only[h,go_sem,go_sem_proc,YP,aF,qe,cf,hl1,hl2,hl3,hl4,hr,hr2,hM1,m1,eh,bY,bz,ad]<;>try refine qS ?_ ?_)
  ·have hr2:bb ((s3,l3),(s4,l4))=false:=by simpa using hr2
   rw[if_pos hr,if_neg (by simp [hr2])];refine qI ?_
   repeat' (intro h<;>simp only[h,go_sem,go_sem_proc,YP,aF,qe,cf,hl1,hl2,hl3,hl4,hr,hr2,bz,ad,bO,YQ]<;>try refine qS ?_ ?_)
 ·have hr:bb ((s,l),(s2,l2))=false:=by simpa using hr
  rw[if_neg (by simp [hr])];refine qI ?_
  repeat' (intro h<;>simp only[h,go_sem,go_sem_proc,YP,aF,qe,cf,hl1,hl2,hl3,hl4,hr,bz,ad,bO,YQ]<;>try refine qS ?_ ?_)
noncomputable def lw:List Data→Option PRes:=FF (α:=Int × (List Int) × Int × (List Int) × Int × (List Int) × Int × (List Int)) (fun (s,l,s2,l2,s3,l3,s4,l4)=>([.agg [.int .i64 s,.sl (l.map aa),.int .i64 s2,.sl (l2.map aa)],.agg [.int .i64 s3,.sl (l3.map aa),.int .i64 s4,.sl (l4.map aa)]]:List Data)) (fun (s,l,s2,l2,s3,l3,s4,l4)=>aG (l.length≤1000000∧l2.length≤1000000∧l3.length≤1000000∧l4.length≤1000000) (.same (bz (mG ((s,l),(s2,l2)) ((s3,l3),(s4,l4))))))
theorem Df:∀ a b:Int × (List Int) × Int × (List Int) × Int × (List Int) × Int × (List Int),(fun (s,l,s2,l2,s3,l3,s4,l4)=>([.agg [.int .i64 s,.sl (l.map aa),.int .i64 s2,.sl (l2.map aa)],.agg [.int .i64 s3,.sl (l3.map aa),.int .i64 s4,.sl (l4.map aa)]]:List Data)) a=(fun (s,l,s2,l2,s3,l3,s4,l4)=>([.agg [.int .i64 s,.sl (l.map aa),.int .i64 s2,.sl (l2.map aa)],.agg [.int .i64 s3,.sl (l3.map aa),.int .i64 s4,.sl (l4.map aa)]]:List Data)) b→a=b:=by
  rintro⟨s1,l1,s21,l21,s31,l31,s41,l41⟩ ⟨s2,l2,s22,l22,s32,l32,s42,l42⟩ h;simp only[List.cons.injEq,Data.agg.injEq,Data.int.injEq,Data.sl.injEq] at h;exact YO h.1.1.2 (YO (af aj _ _ h.1.2.1) (YO h.1.2.2.1.2 (YO (af aj _ _ h.1.2.2.2.1) (YO h.2.1.1.2 (YO (af aj _ _ h.2.1.2.1) (YO h.2.1.2.2.1.2 (af aj _ _ h.2.1.2.2.2.1)))))))
@[go_sem] theorem G6 (s:Int) (l:List Int) (s2:Int) (l2:List Int) (s3:Int) (l3:List Int) (s4:Int) (l4:List Int) (hc:l.length≤1000000∧l2.length≤1000000∧l3.length≤1000000∧l4.length≤1000000):lw [.agg [.int .i64 s,.sl (l.map aa),.int .i64 s2,.sl (l2.map aa)],.agg [.int .i64 s3,.sl (l3.map aa),.int .i64 s4,.sl (l4.map aa)]]=some (.same (bz (mG ((s,l),(s2,l2)) ((s3,l3),(s4,l4))))):=(aV Df (s,l,s2,l2,s3,l3,s4,l4)).trans (ak hc _)
theorem Pm (T:Tab) (aF:T aQ=mkE eU) (jX:T dH=mkE wX) (ib:T dy=mkE qj) (s:Int) (l:List Int) (s2:Int) (l2:List Int) (s3:Int) (l3:List Int) (s4:Int) (l4:List Int) (hc:l.length≤1000000∧l2.length≤1000000∧l3.length≤1000000∧l4.length≤1000000) :
  wp T mf_frac_Mul.body (bt mf_frac_Mul.res (.same (bz (mG ((s,l),(s2,l2)) ((s3,l3),(s4,l4)))))) ⟨aw [.dat (.agg [.int .i64 s,.sl (l.map aa),.int .i64 s2,.sl (l2.map aa)]),.dat (.agg [.int .i64 s3,.sl (l3.map aa),.int .i64 s4,.sl (l4.map aa)])],emp⟩:=by
 refine ao ?_;simp only[mf_frac_Mul];obtain⟨hl1,hl2,hl3,hl4⟩:=hc;unfold mG
 by_cases hr:bb ((s,l),(s2,l2))=true
 ·by_cases hr2:bb ((s3,l3),(s4,l4))=true
  ·have m1:=kP (s,l) (s3,l3)
   have m2:=kP (s2,l2) (s4,l4);rw[if_pos hr,if_pos hr2];dsimp only;generalize hM1:gh (s,l) (s3,l3)=M1 at *;generalize hM2:gh (s2,l2) (s4,l4)=M2 at *;obtain⟨⟨a1,a2⟩,e1⟩:=M1;obtain⟨⟨b1,b2⟩,e2⟩:=M2;refine qI ?_
   repeat' (intro h<;>simp only[h,go_sem,go_sem_proc,YP,aF,jX,ib,hl1,hl2,hl3,hl4,hr,hr2,hM1,hM2,m1,m2,eh,bY,bz,ad]<;>try refine qS ?_ ?_)
  ·have hr2:bb ((s3,l3),(s4,l4))=false:=by simpa using hr2
   rw[if_pos hr,if_neg (by simp [hr2])];refine qI ?_
   repeat' (intro h<;>simp only[h,go_sem,go_sem_proc,YP,aF,jX,ib,hl1,hl2,hl3,hl4,hr,hr2,bz,ad,bO,YQ]<;>try refine qS ?_ ?_)
 ·have hr:bb ((s,l),(s2,l2))=false:=by simpa using hr
  rw[if_neg (by simp [hr])];refine qI ?_
  repeat' (intro h<;>simp only[h,go_sem,go_sem_proc,YP,aF,jX,ib,hl1,hl2,hl3,hl4,hr,bz,ad,bO,YQ]<;>try refine qS ?_ ?_)
noncomputable def pI:List Data→Option PRes:=FF (α:=Int × (List Int) × Int × (List Int) × Int × (List Int) × Int × (List Int)) (fun (s,l,s2,l2,s3,l3,s4,l4)=>([.agg [.int .i64 s,.sl (l.map aa),.int .i64 s2,.sl (l2.map aa)],.agg [.int .i64 s3,.sl (l3.map aa),.int .i64 s4,.sl (l4.map aa)]]:List Data)) (fun (s,l,s2,l2,s3,l3,s4,l4)=>aG (l.length≤1000000∧l2.length≤1000000∧l3.length≤1000000∧l4.length≤1000000) (.same (bz (iV ((s,l),(s2,l2)) ((s3,l3),(s4,l4))))))
theorem CU:∀ a b:Int × (List Int) × Int × (List Int) × Int × (List Int) × Int × (List Int),(fun (s,l,s2,l2,s3,l3,s4,l4)=>([.agg [.int .i64 s,.sl (l.map aa),.int .i64 s2,.sl (l2.map aa)],.agg [.int .i64 s3,.sl (l3.map aa),.int .i64 s4,.sl (l4.map aa)]]:List Data)) a=(fun (s,l,s2,l2,s3,l3,s4,l4)=>([.agg [.int .i64 s,.sl (l.map aa),.int .i64 s2,.sl (l2.map aa)],.agg [.int .i64 s3,.sl (l3.map aa),.int .i64 s4,.sl (l4.map aa)]]:List Data)) b→a=b:=by
  rintro⟨s1,l1,s21,l21,s31,l31,s41,l41⟩ ⟨s2,l2,s22,l22,s32,l32,s42,l42⟩ h;simp only[List.cons.injEq,Data.agg.injEq,Data.int.injEq,Data.sl.injEq] at h;exact YO h.1.1.2 (YO (af aj _ _ h.1.2.1) (YO h.1.2.2.1.2 (YO (af aj _ _ h.1.2.2.2.1) (YO h.2.1.1.2 (YO (af aj _ _ h.2.1.2.1) (YO h.2.1.2.2.1.2 (af aj _ _ h.2.1.2.2.2.1)))))))
@[go_sem] theorem Ha (s:Int) (l:List Int) (s2:Int) (l2:List Int) (s3:Int) (l3:List Int) (s4:Int) (l4:List Int) (hc:l.length≤1000000∧l2.length≤1000000∧l3.length≤1000000∧l4.length≤1000000):pI [.agg [.int .i64 s,.sl (l.map aa),.int .i64 s2,.sl (l2.map aa)],.agg [.int .i64 s3,.sl (l3.map aa),.int .i64 s4,.sl (l4.map aa)]]=some (.same (bz (iV ((s,l),(s2,l2)) ((s3,l3),(s4,l4))))):=(aV CU (s,l,s2,l2,s3,l3,s4,l4)).trans (ak hc _)
theorem OJ (T:Tab) (aF:T aQ=mkE eU) (jX:T dH=mkE wX) (ib:T dy=mkE qj) (s:Int) (l:List Int) (s2:Int) (l2:List Int) (s3:Int) (l3:List Int) (s4:Int) (l4:List Int) (hc:l.length≤1000000∧l2.length≤1000000∧l3.length≤1000000∧l4.length≤1000000) :
  wp T mf_frac_Div.body (bt mf_frac_Div.res (.same (bz (iV ((s,l),(s2,l2)) ((s3,l3),(s4,l4)))))) ⟨aw [.dat (.agg [.int .i64 s,.sl (l.map aa),.int .i64 s2,.sl (l2.map aa)]),.dat (.agg [.int .i64 s3,.sl (l3.map aa),.int .i64 s4,.sl (l4.map aa)])],emp⟩:=by
 refine ao ?_;simp only[mf_frac_Div];obtain⟨hl1,hl2,hl3,hl4⟩:=hc;unfold iV
 by_cases hr:bb ((s,l),(s2,l2))=true
 ·by_cases hr2:bb ((s3,l3),(s4,l4))=true
  ·rw[if_pos hr,if_pos hr2]
   dsimp only;rcases h0:(s3==0)
   ·have m1:=kP (s,l) (s4,l4)
    have m2:=kP (s2,l2) (s3,l3);rw[if_neg (by simp)];generalize hM1:gh (s,l) (s4,l4)=M1 at *;generalize hM2:gh (s2,l2) (s3,l3)=M2 at *;obtain⟨⟨a1,a2⟩,e1⟩:=M1;obtain⟨⟨b1,b2⟩,e2⟩:=M2;refine qI ?_
    repeat' (intro h<;>simp only[h,go_sem,go_sem_proc,YP,aF,jX,ib,hl1,hl2,hl3,hl4,hr,hr2,h0,hM1,hM2,m1,m2,eh,bY,bz,ad]<;>try refine qS ?_ ?_)
   ·rw[if_pos rfl]
    refine qI ?_
    repeat' (intro h<;>simp only[h,go_sem,go_sem_proc,YP,aF,jX,ib,hl1,hl2,hl3,hl4,hr,hr2,h0,bz,ad,bO,YQ]<;>try refine qS ?_ ?_)
  ·have hr2:bb ((s3,l3),(s4,l4))=false:=by simpa using hr2
   rw[if_pos hr,if_neg (by simp [hr2])];refine qI ?_
   repeat' (intro h<;>simp only[h,go_sem,go_sem_proc,YP,aF,jX,ib,hl1,hl2,hl3,hl4,hr,hr2,bz,ad,bO,YQ]<;>try refine qS ?_ ?_)
 ·have hr:bb ((s,l),(s2,l2))=false:=by simpa using hr
  rw[if_neg (by simp [hr])];refine qI ?_
  repeat' (intro h<;>simp only[h,go_sem,go_sem_proc,YP,aF,jX,ib,hl1,hl2,hl3,hl4,hr,bz,ad,bO,YQ]<;>try refine qS ?_ ?_)
def qF (c:Bool) (v:Rat):aE × Int:=if c=true then (ah v,0) else (bO,6)
def okZ (z:Int):Bool:=decide (z.natAbs<LIM)
def gW (x y:Rat):Bool:=okZ (x.num*y.den)&&(okZ (y.num*x.den)&&(okZ (x.num*y.den+y.num*x.den)&&okZ ((x.den:Int)*y.den)))
def qg (x y:Rat):Bool:=okZ (x.num*y.num)&&okZ ((x.den:Int)*y.den)
def oc (x y:Rat):Bool:=okZ (x.num*y.den)&&okZ ((x.den:Int)*y.num)
theorem iB {z:Int} (h:okZ z=true):lv z=(aP z,0):=if_pos (by simpa [okZ] using h)
theorem jB {z:Int} (h:okZ z=false):lv z=((0,[]),6):=if_neg (by simpa [okZ] using h)
theorem gL {z:Int} (h:okZ z=true):z.natAbs<LIM:=by simpa [okZ] using h
theorem Kt {a b c d:Int} (ha:a.natAbs<LIM) (hb:b.natAbs<LIM) (hc:c.natAbs<LIM) (hd:d.natAbs<LIM) :
  uB (aP a) (aP b) (aP c) (aP d)=if (okZ (a*b)&&(okZ (c*d)&&okZ (a*b+c*d)))=true then (aP (a*b+c*d),0) else ((0,[]),6):=by
 unfold uB;rw[jA ha hb,jA hc hd];rcases h1:okZ (a*b)
 ·rw[jB h1];rfl
 ·rw[iB h1]
  rcases h2:okZ (c*d)
  ·rw[jB h2];rfl
  ·rw[iB h2]
   show qY (aP (a*b)) (aP (c*d))=_;rw[B6 (gL h1) (gL h2)];rcases h3:okZ (a*b+c*d)
   ·rw[jB h3];rfl
   ·rw[iB h3];rfl
theorem po (x y:Rat):ZD (x.num*y.den+y.num*x.den) ((x.den:Int)*y.den)=x+y:=by
 rw[←Rat.divInt_add_divInt _ _ (by have:=den_pos x;omega) (by have:=den_pos y;omega),ZE,ZE]
theorem pq (x y:Rat):ZD (x.num*y.num) ((x.den:Int)*y.den)=x*y:=by
 rw[←ZM,ZE,ZE]
theorem pB (x y:Rat):ZD (x.num*y.den) ((x.den:Int)*y.num)=x / y:=by
 rw[←ZM,ZE,←Rat.inv_divInt,ZE]
 rfl
theorem kw (x:Rat):(x.den:Int)≠0:=by have:=den_pos x;omega
theorem uP {x y:Rat} (hx:bX x) (hy:bX y):sV (ah x) (ah y)=qF (gW x y) (x+y):=by
 unfold sV;rw[if_pos (eJ hx),if_pos (eJ hy)]
 show ny (uB (aP x.num) (aP y.den) (aP y.num) (aP x.den)) (gh (aP x.den) (aP y.den))=_;rw[Kt hx.1 (tP hy) hy.1 (tP hx),jA (tP hx) (tP hy)];unfold gW;rcases h1:okZ (x.num*y.den)
 ·rfl
 ·rcases h2:okZ (y.num*x.den)
  ·rfl
  ·rcases h3:okZ (x.num*y.den+y.num*x.den)
   ·rfl
   ·rcases h4:okZ ((x.den:Int)*y.den)
    ·rw[jB h4];rfl
    ·rw[iB h4]
     show fD (aP (x.num*y.den+y.num*x.den)) (aP ((x.den:Int)*y.den))=(ah (x+y),0)
     rw[iR (gL h3) (gL h4) (ZN (kw x) (kw y)),po]
theorem Kv {x:Rat} (h:bX x):bX (-x):=⟨by rw[Rat.neg_num];have:=h.1;omega,by rw[Rat.neg_den];exact h.2⟩
theorem rg {x y:Rat} (hx:bX x) (hy:bX y):nC (ah x) (ah y)=qF (gW x (-y)) (x-y):=by
 unfold nC;rw[if_pos (eJ hx),if_pos (eJ hy)]
 have:(iG (ah y).1,(ah y).2)=ah (-y):=by
  unfold ah;have:iG (aP y.num)=aP (-y.num):=by unfold iG;rw[if_pos (bF hy.1),aR];dsimp only;rw[this];rfl
 rw[this,uP hx (Kv hy),ZO]
theorem um {x y:Rat} (hx:bX x) (hy:bX y):mG (ah x) (ah y)=qF (qg x y) (x*y):=by
 unfold mG;rw[if_pos (eJ hx),if_pos (eJ hy)]
 show ny (gh (aP x.num) (aP y.num)) (gh (aP x.den) (aP y.den))=_;rw[jA hx.1 hy.1,jA (tP hx) (tP hy)];unfold qg;rcases h1:okZ (x.num*y.num)
 ·rw[jB h1];rfl
 ·rw[iB h1]
  rcases h4:okZ ((x.den:Int)*y.den)
  ·rw[jB h4];rfl
  ·rw[iB h4]
   show fD (aP (x.num*y.num)) (aP ((x.den:Int)*y.den))=(ah (x*y),0)
   rw[iR (gL h1) (gL h4) (ZN (kw x) (kw y)),pq]
theorem rc {x y:Rat} (hx:bX x) (hy:bX y) (h0:y≠0):iV (ah x) (ah y)=qF (oc x y) (x / y):=by
 unfold iV;rw[if_pos (eJ hx),if_pos (eJ hy)];have hn:y.num≠0:=fun h=>h0 (Rat.num_eq_zero.1 h)
 have:((ah y).1.1==0)=false:=by
  show (y.num.sign==0)=false
  simpa using hn
 rw[this,if_neg (by simp)]
 show ny (gh (aP x.num) (aP y.den)) (gh (aP x.den) (aP y.num))=_;rw[jA hx.1 (tP hy),jA (tP hx) hy.1];unfold oc;rcases h1:okZ (x.num*y.den)
 ·rw[jB h1];rfl
 ·rw[iB h1]
  rcases h4:okZ ((x.den:Int)*y.num)
  ·rw[jB h4];rfl
  ·rw[iB h4]
   show fD (aP (x.num*y.den)) (aP ((x.den:Int)*y.num))=(ah (x / y),0)
   rw[iR (gL h1) (gL h4) (ZN (kw x) hn),pB]
theorem L3 {x y:Rat} (h:gW x y=true):bX (x+y):=by
 unfold gW at h;simp only[ZF] at h;rw[←po];exact mY (gL h.2.2.1) (gL h.2.2.2)
theorem ES {x y:Rat} (h:gW x (-y)=true):bX (x-y):=by rw[ZO];exact L3 h
theorem FH {x y:Rat} (h:qg x y=true):bX (x*y):=by
 unfold qg at h;simp only[ZF] at h;rw[←pq];exact mY (gL h.1) (gL h.2)
theorem Mc {x y:Rat} (h:oc x y=true):bX (x / y):=by
 unfold oc at h;simp only[ZF] at h;rw[←pB];exact mY (gL h.1) (gL h.2)
def kO (x y:Rat):Int:=(x.num*y.den-y.num*x.den).sign
def kX (a b:aE):Int:=if bb a=true then (if bb b=true then (gy a.1*gy b.2-gy b.1*gy a.2).sign else 0) else 0
theorem qQ {x y:Rat} (hx:bX x) (hy:bX y):kX (ah x) (ah y)=kO x y:=by
 unfold kX;rw[if_pos (eJ hx),if_pos (eJ hy)];unfold ah kO;rw[aR,aR,aR,aR]
theorem cmpQ_zero {x y:Rat}:kO x y=0↔x=y:=by
 unfold kO;rw[YR,Rat.eq_iff_mul_eq_mul];omega
theorem re {p q:Int} (hq:0<q):0≤p.fmod q∧p.fmod q<q:=⟨Int.fmod_nonneg_of_pos _ hq,Int.fmod_lt_of_pos _ hq⟩
theorem Kc {p q r s:Int} (hq:0<q) (hs:0<s) (h:p.fdiv q<r.fdiv s):p*s-r*q<0:=by
 have e1:=ZP p q;have e2:=ZP r s;have b1:=re (p:=p) hq;have b2:=re (p:=r) hs;generalize p.fdiv q=x at *;generalize r.fdiv s=y at *;generalize p.fmod q=u at *;generalize r.fmod s=v at *;subst e1 e2;have h1:q*s*(x+1)≤q*s*y:=Int.mul_le_mul_of_nonneg_left (by omega) (Zm (Int.mul_pos hq hs));have h2:u*s<q*s:=Int.mul_lt_mul_of_pos_right b1.2 hs;have h3:0≤v*q:=Zj b2.1 (by omega);have e3:(q*x+u)*s-(s*y+v)*q=q*s*(x+1)-q*s*y+(u*s-q*s)-v*q:=by grind
 omega
theorem OI {p q r s:Int} (h:p.fdiv q=r.fdiv s):p*s-r*q=p.fmod q*s-r.fmod s*q:=by
 have e1:=ZP p q;have e2:=ZP r s;rw[h] at e1;generalize r.fdiv s=y at *;generalize p.fmod q=u at *;generalize r.fmod s=v at *;subst e1 e2;grind
theorem wO (a b:Int):(a-b).sign = -(b-a).sign:=by rw[←YV];congr 1;omega
theorem xe {p q:Int} (hp:p.natAbs<LIM) (hq:q.natAbs<LIM) (h0:0<q) :
  jo (p.sign,dg p.natAbs) (q.sign,dg q.natAbs)=(((p.fdiv q).sign,dg (p.fdiv q).natAbs),((p.fmod q).sign,dg (p.fmod q).natAbs),0):=kv hp hq (by omega)
noncomputable def dc:List Data→Option PRes:=FF (α:=Int × (List Int) × Int × (List Int) × Int × (List Int) × Int × (List Int)) (fun (s,l,s2,l2,s3,l3,s4,l4)=>([.agg [.int .i64 s,.sl (l.map aa),.int .i64 s2,.sl (l2.map aa)],.agg [.int .i64 s3,.sl (l3.map aa),.int .i64 s4,.sl (l4.map aa)]]:List Data)) (fun (s,l,s2,l2,s3,l3,s4,l4)=>aG (l.length≤1000000∧l2.length≤1000000∧l3.length≤1000000∧l4.length≤1000000) (.same (.int .i64 (kX ((s,l),(s2,l2)) ((s3,l3),(s4,l4))))))
theorem tB:∀ a b:Int × (List Int) × Int × (List Int) × Int × (List Int) × Int × (List Int),(fun (s,l,s2,l2,s3,l3,s4,l4)=>([.agg [.int .i64 s,.sl (l.map aa),.int .i64 s2,.sl (l2.map aa)],.agg [.int .i64 s3,.sl (l3.map aa),.int .i64 s4,.sl (l4.map aa)]]:List Data)) a=(fun (s,l,s2,l2,s3,l3,s4,l4)=>([.agg [.int .i64 s,.sl (l.map aa),.int .i64 s2,.sl (l2.map aa)],.agg [.int .i64 s3,.sl (l3.map aa),.int .i64 s4,.sl (l4.map aa)]]:List Data)) b→a=b:=by
  rintro⟨s1,l1,s21,l21,s31,l31,s41,l41⟩ ⟨s2,l2,s22,l22,s32,l32,s42,l42⟩ h;simp only[List.cons.injEq,Data.agg.injEq,Data.int.injEq,Data.sl.injEq] at h;exact YO h.1.1.2 (YO (af aj _ _ h.1.2.1) (YO h.1.2.2.1.2 (YO (af aj _ _ h.1.2.2.2.1) (YO h.2.1.1.2 (YO (af aj _ _ h.2.1.2.1) (YO h.2.1.2.2.1.2 (af aj _ _ h.2.1.2.2.2.1)))))))
@[go_sem] theorem pg (s:Int) (l:List Int) (s2:Int) (l2:List Int) (s3:Int) (l3:List Int) (s4:Int) (l4:List Int) (hc:l.length≤1000000∧l2.length≤1000000∧l3.length≤1000000∧l4.length≤1000000):dc [.agg [.int .i64 s,.sl (l.map aa),.int .i64 s2,.sl (l2.map aa)],.agg [.int .i64 s3,.sl (l3.map aa),.int .i64 s4,.sl (l4.map aa)]]=some (.same (.int .i64 (kX ((s,l),(s2,l2)) ((s3,l3),(s4,l4))))):=(aV tB (s,l,s2,l2,s3,l3,s4,l4)).trans (ak hc _)
theorem D0 (T:Tab) (aF:T aQ=mkE eU) (jV:T ir=mkE EN) (fG:T kS=mkE rW) (s:Int) (l:List Int) (s2:Int) (l2:List Int) (s3:Int) (l3:List Int) (s4:Int) (l4:List Int) (hc:l.length≤1000000∧l2.length≤1000000∧l3.length≤1000000∧l4.length≤1000000) :
  wp T mf_frac_Compare.body (bt mf_frac_Compare.res (.same (.int .i64 (kX ((s,l),(s2,l2)) ((s3,l3),(s4,l4)))))) ⟨aw [.dat (.agg [.int .i64 s,.sl (l.map aa),.int .i64 s2,.sl (l2.map aa)]),.dat (.agg [.int .i64 s3,.sl (l3.map aa),.int .i64 s4,.sl (l4.map aa)])],emp⟩:=by
 refine ao ?_;simp only[mf_frac_Compare];obtain⟨hl1,hl2,hl3,hl4⟩:=hc
 by_cases hr:bb ((s,l),(s2,l2))=true
 ·by_cases hr2:bb ((s3,l3),(s4,l4))=true
  ·obtain⟨x,hx,e⟩:=(kR _).1 hr
   obtain⟨y,hy,e2⟩:=(kR _).1 hr2;have hm:kX ((s,l),(s2,l2)) ((s3,l3),(s4,l4))=kO x y:=by rw[e,e2,qQ hx hy]
   rw[hm];clear hm;have ea:(s,l)=aP x.num:=congrArg ZL e;have eb:(s2,l2)=aP x.den:=congrArg Prod.snd e;have ec:(s3,l3)=aP y.num:=congrArg ZL e2;have ed:(s4,l4)=aP y.den:=congrArg Prod.snd e2;clear e e2;have hxd:=tP hx;have hyd:=tP hy;have hx0:=den_pos x;have hy0:=den_pos y;have hxn:=hx.1;have hyn:=hy.1;unfold kO;generalize x.num=P at *;generalize (x.den:Int)=Q at *;generalize y.num=R at *;generalize (y.den:Int)=S at *
   cases ea
   cases eb
   cases ec
   cases ed;simp only[go_sem,go_sem_proc,YP,aF,jV,fG,hl1,hl2,hl3,hl4,hr,hr2];refine ae [5,6,7,8] [135002,135003] (fun ((sg,p,q,r,t):Int × Int × Int × Int × Int) tm mem=>(sg=1∨sg = -1)∧0<q∧0<t∧p.natAbs<LIM∧q.natAbs<LIM∧r.natAbs<LIM∧t.natAbs<LIM∧(P*S-R*Q).sign=sg*(p*t-r*q).sign∧tm 9 = .dat (.int .i64 sg)∧mem 135005=some (0,[.dat (.int .i64 p.sign),.dat (.sl ((dg p.natAbs).map aa))])∧mem 135006=some (0,[.dat (.int .i64 q.sign),.dat (.sl ((dg q.natAbs).map aa))])∧mem 135007=some (0,[.dat (.int .i64 r.sign),.dat (.sl ((dg r.natAbs).map aa))])∧mem 135008=some (0,[.dat (.int .i64 t.sign),.dat (.sl ((dg t.natAbs).map aa))])) (fun (_,_,q,_,_)=>q.natAbs) (1,P,Q,R,S) (by refine⟨.inl rfl,hx0,hy0,hxn,hxd,hyn,hyd,by rw[YF],rfl,?_,?_,?_,?_⟩<;>rfl) ?_
   intro vs ms hvs hms;simp only[go_sem,go_sem_proc,YP,aF,jV,fG] at hvs hms;subst hvs hms;rintro⟨sg,p,q,r,t⟩ tm mem hk hm ⟨hsg,hq0,ht0,hp,hq,hrr,ht,hval,h9,m5,m6,m7,m8⟩;simp only[go_sem,go_sem_proc,YP,aF,jV,fG,List.cons.injEq] at hk hm;obtain⟨h5,h6,h7,h8⟩:=hk;have lp:=eN hp;have lq:=eN hq;have lr:=eN hrr;have lt:=eN ht;have hd1:=xe hp hq hq0;have hd2:=xe hrr ht ht0;have bx:=mh (y:=q) hp (by omega);have by':=mh (y:=t) hrr (by omega)
   have lx:=eN bx;have ly:=eN by'
   have hcm:ua ((p.fdiv q).sign,dg (p.fdiv q).natAbs) ((r.fdiv t).sign,dg (r.fdiv t).natAbs)=fK (p.fdiv q) (r.fdiv t):=AC bx by'
   have bu:=re (p:=p) hq0;have bv:=re (p:=r) ht0;have hneg1:IntKind.i64.wrap (0-sg) = -sg:=by rcases hsg with rfl | rfl<;>rfl
   rcases ZJ (p.fdiv q) (r.fdiv t) with hlt | heq | hgt
   ·have hv:=Kc hq0 ht0 hlt
    rw[qd hlt] at hcm;rw[hval,Y5 hv];have hw:IntKind.i64.wrap (sg * -1)=sg * -1:=by rcases hsg with rfl | rfl<;>rfl
    refine qI ?_
    repeat' (intro h<;>simp only[h,go_sem,go_sem_proc,YP,aF,jV,fG,h5,h6,h7,h8,h9,hm,m5,m6,m7,m8,lp,lq,lr,lt,lx,ly,hd1,hd2,hcm,hw,fb,bY,show ((-1:Int)==0)=false from rfl]<;>try refine qS ?_ ?_)
   ·have hv:=OI heq
    rw[heq,sZ] at hcm
    have hw2:∀ a:Int,-1≤a→a≤1→IntKind.i64.wrap (sg*a)=sg*a:=by
     intro a h1 h2;rcases hsg with rfl | rfl<;>exact an _ (by omega) (by omega)
    rw[heq] at hd1 lx;have bul:(p.fmod q).natAbs<LIM:=by omega
    have bvl:(r.fmod t).natAbs<LIM:=by omega
    rw[hv] at hval;generalize p.fmod q=u at *;generalize r.fmod t=v at *
    by_cases hu:u=0
    ·subst hu
     have hs:(0*t-v*q).sign=(0:Int).sign-v.sign:=by
      rw[YG,ZQ,YV,YS,YW hq0,YI,ZR,ZQ]
     rw[hs] at hval;rw[hval];have h3:=dW v;have hw0:IntKind.i64.wrap ((0:Int).sign-v.sign)=(0:Int).sign-v.sign:=an _ (by rw[ZR];omega) (by rw[ZR];omega)
     have hw:=hw2 ((0:Int).sign-v.sign) (by rw[ZR];omega) (by rw[ZR];omega);refine qI ?_
     repeat' (intro h<;>simp only[h,go_sem,go_sem_proc,YP,aF,jV,fG,h5,h6,h7,h8,h9,hm,m5,m6,m7,m8,lp,lq,lr,lt,lx,ly,hd1,hd2,hcm,hw,hw0,fb,bY,show ((0:Int)==0)=true from rfl,show ((0:Int).sign==0)=true from rfl]<;>try refine qS ?_ ?_)
    ·have hu0:0<u:=by omega
     have hu1:(u.sign==0)=false:=by simpa using hu
     by_cases hv0:v=0
     ·subst hv0
      have hs:(u*t-0*q).sign=u.sign-(0:Int).sign:=by
       rw[YG,ZS,YS,YW ht0,YI,ZR,ZS]
      rw[hs] at hval;rw[hval];have h3:=dW u;have hw0:IntKind.i64.wrap (u.sign-(0:Int).sign)=u.sign-(0:Int).sign:=an _ (by rw[ZR];omega) (by rw[ZR];omega)
      have hw:=hw2 (u.sign-(0:Int).sign) (by rw[ZR];omega) (by rw[ZR];omega);refine qI ?_
      repeat' (intro h<;>simp only[h,go_sem,go_sem_proc,YP,aF,jV,fG,h5,h6,h7,h8,h9,hm,m5,m6,m7,m8,lp,lq,lr,lt,lx,ly,hd1,hd2,hcm,hw,hw0,hu1,fb,bY,show ((0:Int)==0)=true from rfl,show ((0:Int).sign==0)=true from rfl]<;>try refine qS ?_ ?_)
     ·have hv1:(v.sign==0)=false:=by simpa using hv0
      refine qI ?_
      repeat' (intro h<;>simp only[h,go_sem,go_sem_proc,YP,aF,jV,fG,h5,h6,h7,h8,h9,hm,m5,m6,m7,m8,lp,lq,lr,lt,lx,ly,hd1,hd2,hcm,hu1,hv1,hneg1,fb,bY,show ((0:Int)==0)=true from rfl]<;>try refine qS ?_ ?_)
      refine⟨(-sg,q,u,t,v),by dsimp only;omega,by dsimp only;omega,by dsimp only;omega,by dsimp only;omega,by dsimp only;omega,by dsimp only;omega,by dsimp only;omega,by dsimp only;omega,?_,by simp [go_sem],by simp [go_sem],by simp [go_sem],by simp [go_sem],by simp [go_sem]⟩
      dsimp only;rw[hval,wO (q*v) (t*u),Int.neg_mul_neg,ZB t u,ZB q v]
   ·have hv:=Kc ht0 hq0 hgt
    rw[pW hgt] at hcm;rw[hval,wO,Y5 hv];have hw:IntKind.i64.wrap (sg*1)=sg * -(-1):=by rcases hsg with rfl | rfl<;>rfl
    refine qI ?_
    repeat' (intro h<;>simp only[h,go_sem,go_sem_proc,YP,aF,jV,fG,h5,h6,h7,h8,h9,hm,m5,m6,m7,m8,lp,lq,lr,lt,lx,ly,hd1,hd2,hcm,hw,fb,bY,show ((1:Int)==0)=false from rfl]<;>try refine qS ?_ ?_)
  ·have hr2:bb ((s3,l3),(s4,l4))=false:=by simpa using hr2
   have hm:kX ((s,l),(s2,l2)) ((s3,l3),(s4,l4))=0:=by unfold kX;rw[if_pos hr,if_neg (by simp [hr2])]
   rw[hm];refine qI ?_
   repeat' (intro h<;>simp only[h,go_sem,go_sem_proc,YP,aF,jV,fG,hl1,hl2,hl3,hl4,hr,hr2]<;>try refine qS ?_ ?_)
 ·have hr:bb ((s,l),(s2,l2))=false:=by simpa using hr
  have hm:kX ((s,l),(s2,l2)) ((s3,l3),(s4,l4))=0:=by unfold kX;rw[if_neg (by simp [hr])]
  rw[hm];refine qI ?_
  repeat' (intro h<;>simp only[h,go_sem,go_sem_proc,YP,aF,jV,fG,hl1,hl2,hl3,hl4,hr]<;>try refine qS ?_ ?_)
end Go.Mini
