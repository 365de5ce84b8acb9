/- A part of the proof: MiniBig9, MiniBig10, MiniBig11, MiniBig12, MiniBig13, MiniKFrac, MiniFr1. -/
import Derived.Test.YtjcpopjafedmpaaGreatM05
import Derived.Test.YtjcpopjafedmpaaGreatM04
set_option linter.unusedSimpArgs false
set_option linter.unusedVariables false
open Nat renaming reduceEqDiff → yA, reduceAdd → yB, reduceSub → yC, reduceMul → yD, reduceLeDiff → yE, reduceLT → yF, reduceBEq → yG
open Bool renaming false_eq_true → yH
open Int renaming reduceEq → yI
open List renaming length_map → yJ, getElem?_map → yK, getElem?_eq_getElem → yL
open List.cons renaming injEq → yM
namespace Go.Mini
open Go
set_option maxRecDepth 10000
set_option maxHeartbeats 2000000
theorem pair_eta (a:Raw):(a.1,a.2)=a:=rfl
def mulR (a b:Raw):Raw × Int:=if (rightR a&&rightR b)=true then keepB (valB a*valB b) else ((0,[]),1)
theorem mulR_enc {x y:Int} (hx:x.natAbs<LIM) (hy:y.natAbs<LIM):mulR (encB x) (encB y)=keepB (x*y):=by
 unfold mulR
 rw[right_enc hx,right_enc hy,valB_enc,valB_enc]
 rfl
theorem lim_len {z:Int} (h:z.natAbs<LIM):(dg z.natAbs).length≤60:=dg_len.2 h
theorem sign_abs (z:Int):-1≤z.sign∧z.sign≤1:=by
 have:=Int.sign_trichotomy z
 omega
noncomputable def F_Mul:List Data→Option PRes:=FF (α:=Int × (List Int) × Int × (List Int)) (fun (s,l,s2,l2)=>([.agg [.int .i64 s,.sl (l.map i64L)],.agg [.int .i64 s2,.sl (l2.map i64L)]]:List Data)) (fun (s,l,s2,l2)=>onlyIf (l.length≤1000000∧l2.length≤1000000) (.same (bigE (mulR (s,l) (s2,l2)))))
theorem F_Mul_inj:∀ a b:Int × (List Int) × Int × (List Int),(fun (s,l,s2,l2)=>([.agg [.int .i64 s,.sl (l.map i64L)],.agg [.int .i64 s2,.sl (l2.map i64L)]]:List Data)) a=(fun (s,l,s2,l2)=>([.agg [.int .i64 s,.sl (l.map i64L)],.agg [.int .i64 s2,.sl (l2.map i64L)]]:List Data)) b→a=b:=by
  rintro⟨s1,l1,s21,l21⟩ ⟨s2,l2,s22,l22⟩ h
  simp only[yM,Data.agg.injEq,Data.int.injEq,Data.sl.injEq] at h;exact Prod.ext h.1.1.2 (Prod.ext (map_inj i64L_inj _ _ h.1.2.1) (Prod.ext h.2.1.1.2 (map_inj i64L_inj _ _ h.2.1.2.1)))
@[go_sem] theorem F_Mul_eq (s:Int) (l:List Int) (s2:Int) (l2:List Int) (hc:l.length≤1000000∧l2.length≤1000000):F_Mul [.agg [.int .i64 s,.sl (l.map i64L)],.agg [.int .i64 s2,.sl (l2.map i64L)]]=some (.same (bigE (mulR (s,l) (s2,l2)))):=(FF_eq F_Mul_inj (s,l,s2,l2)).trans (onlyIf_pos hc _)
theorem w_Mul (T:Tab) (h_bigRight:T id_big_Right=mkE F_bigRight) (h_mul:T id_big_mul=mkE F_mul) (h_signed:T id_big_signed=mkE F_signed) (h_checked:T id_big_checked=mkE F_checked) (s:Int) (l:List Int) (s2:Int) (l2:List Int) (hc:l.length≤1000000∧l2.length≤1000000) :
  wp T mf_big_Mul.body (endS mf_big_Mul.res (.same (bigE (mulR (s,l) (s2,l2))))) ⟨initTm [.dat (.agg [.int .i64 s,.sl (l.map i64L)]),.dat (.agg [.int .i64 s2,.sl (l2.map i64L)])],emp⟩:=by
 refine wp_start ?_
 simp only[mf_big_Mul]
 obtain⟨hl1,hl2⟩:=hc
 by_cases hr:rightR (s,l)=true
 ·by_cases hr2:rightR (s2,l2)=true
  ·obtain⟨x,hx,e⟩:=(rightR_iff _).1 hr
   obtain⟨y,hy,e2⟩:=(rightR_iff _).1 hr2
   have hm:mulR (s,l) (s2,l2)=keepB (x*y):=by rw[e,e2];exact mulR_enc hx hy
   rw[hm]
   clear hm
   cases e
   cases e2
   have h1:=sign_abs x
   have h2:=sign_abs y
   have hp:x.sign*y.sign=(x*y).sign:=(Int.sign_mul x y).symm
   have h3:=sign_abs (x*y)
   have hw:IntKind.i64.wrap (x.sign*y.sign)=(x*y).sign:=by rw[hp];exact wrap64 _ (by omega) (by omega)
   have hmul:=F_mul_eq x.natAbs y.natAbs ⟨Nat.le_trans (lim_len hx) (by omega),Nat.le_trans (lim_len hy) (by omega)⟩
   simp only[digs] at hmul
   have hlen:(dg (x.natAbs*y.natAbs)).length≤1000000:=by
    refine Nat.le_trans ((dg_len (k:=120)).2 ?_) (by omega)
    have:(1048576^120:Nat)=LIM*LIM:=by unfold LIM;rw[←Nat.pow_add]
    rw[this]
    exact Nat.mul_lt_mul'' hx hy
   have hs:signR (x*y).sign (dg (x.natAbs*y.natAbs))=encB (x*y):=signR_enc (Int.natAbs_mul x y) fun _=>rfl
   simp only[go_sem,reduceIte,yA,yB,yC,yD,yE,yH,reduceCtorEq,yF,yG,yI,h_bigRight,h_mul,h_signed,h_checked,hr,hr2,hl1,hl2,hw,hmul,hlen,hs,check_enc,bigL,bigE,pair_eta]
   repeat' (first|refine qqA ?_ ?_|refine qqB ?_ ?_|refine qqC ?_ ?_|refine qqD ?_ ?_|refine qqE ?_ ?_|refine qqF ?_ ?_)<;>intro h<;>simp only[h,go_sem,reduceIte,yA,yB,yC,yD,yE,yH,reduceCtorEq,yF,yG,yI,h_bigRight,h_mul,h_signed,h_checked,hr,hr2,hl1,hl2,hw,hmul,hlen,hs,check_enc,bigL,bigE,pair_eta]
  ·have hr2:rightR (s2,l2)=false:=by simpa using hr2
   have hm:mulR (s,l) (s2,l2)=((0,[]),1):=by unfold mulR;rw[hr2,Bool.and_false];rfl
   rw[hm]
   have hch:=F_checked_eq false 0 []
   simp only[List.map_nil] at hch
   simp only[go_sem,reduceIte,yA,yB,yC,yD,yE,yH,reduceCtorEq,yF,yG,yI,h_bigRight,h_mul,h_signed,h_checked,hr,hr2,hl1,hl2,hch,bigL,bigE,List.map_nil]
   repeat' (first|refine qqA ?_ ?_|refine qqB ?_ ?_|refine qqC ?_ ?_|refine qqD ?_ ?_|refine qqE ?_ ?_|refine qqF ?_ ?_)<;>intro h<;>simp only[h,go_sem,reduceIte,yA,yB,yC,yD,yE,yH,reduceCtorEq,yF,yG,yI,h_bigRight,h_mul,h_signed,h_checked,hr,hr2,hl1,hl2,hch,bigL,bigE,List.map_nil]
 ·have hr:rightR (s,l)=false:=by simpa using hr
  have hm:mulR (s,l) (s2,l2)=((0,[]),1):=by unfold mulR;rw[hr,Bool.false_and];rfl
  rw[hm]
  have hch:=F_checked_eq false 0 []
  simp only[List.map_nil] at hch
  simp only[go_sem,reduceIte,yA,yB,yC,yD,yE,yH,reduceCtorEq,yF,yG,yI,h_bigRight,h_mul,h_signed,h_checked,hr,hl1,hl2,hch,bigL,bigE,List.map_nil]
  repeat' (first|refine qqA ?_ ?_|refine qqB ?_ ?_|refine qqC ?_ ?_|refine qqD ?_ ?_|refine qqE ?_ ?_|refine qqF ?_ ?_)<;>intro h<;>simp only[h,go_sem,reduceIte,yA,yB,yC,yD,yE,yH,reduceCtorEq,yF,yG,yI,h_bigRight,h_mul,h_signed,h_checked,hr,hl1,hl2,hch,bigL,bigE,List.map_nil]
def addR (a b:Raw):Raw × Int:=if (rightR a&&rightR b)=true then keepB (valB a+valB b) else ((0,[]),1)
theorem addR_enc {x y:Int} (hx:x.natAbs<LIM) (hy:y.natAbs<LIM):addR (encB x) (encB y)=keepB (x+y):=by
 unfold addR
 rw[right_enc hx,right_enc hy,valB_enc,valB_enc]
 rfl
theorem sub_len (a b:Nat):(dg (a-b)).length≤(dg a).length:=by
 rw[dg_len]
 exact Nat.lt_of_le_of_lt (Nat.sub_le a b) (dg_len.1 (Nat.le_refl _))
noncomputable def F_Add:List Data→Option PRes:=FF (α:=Int × (List Int) × Int × (List Int)) (fun (s,l,s2,l2)=>([.agg [.int .i64 s,.sl (l.map i64L)],.agg [.int .i64 s2,.sl (l2.map i64L)]]:List Data)) (fun (s,l,s2,l2)=>onlyIf (l.length≤1000000∧l2.length≤1000000) (.same (bigE (addR (s,l) (s2,l2)))))
theorem F_Add_inj:∀ a b:Int × (List Int) × Int × (List Int),(fun (s,l,s2,l2)=>([.agg [.int .i64 s,.sl (l.map i64L)],.agg [.int .i64 s2,.sl (l2.map i64L)]]:List Data)) a=(fun (s,l,s2,l2)=>([.agg [.int .i64 s,.sl (l.map i64L)],.agg [.int .i64 s2,.sl (l2.map i64L)]]:List Data)) b→a=b:=by
  rintro⟨s1,l1,s21,l21⟩ ⟨s2,l2,s22,l22⟩ h
  simp only[yM,Data.agg.injEq,Data.int.injEq,Data.sl.injEq] at h;exact Prod.ext h.1.1.2 (Prod.ext (map_inj i64L_inj _ _ h.1.2.1) (Prod.ext h.2.1.1.2 (map_inj i64L_inj _ _ h.2.1.2.1)))
@[go_sem] theorem F_Add_eq (s:Int) (l:List Int) (s2:Int) (l2:List Int) (hc:l.length≤1000000∧l2.length≤1000000):F_Add [.agg [.int .i64 s,.sl (l.map i64L)],.agg [.int .i64 s2,.sl (l2.map i64L)]]=some (.same (bigE (addR (s,l) (s2,l2)))):=(FF_eq F_Add_inj (s,l,s2,l2)).trans (onlyIf_pos hc _)
theorem w_Add (T:Tab) (h_bigRight:T id_big_Right=mkE F_bigRight) (h_orI:T id_cmp_Or_int=mkE F_orI) (h_add:T id_big_add=mkE F_add) (h_sub:T id_big_sub=mkE F_sub) (h_compare:T id_big_compare=mkE F_compare) (h_signed:T id_big_signed=mkE F_signed) (h_checked:T id_big_checked=mkE F_checked) (s:Int) (l:List Int) (s2:Int) (l2:List Int) (hc:l.length≤1000000∧l2.length≤1000000) :
  wp T mf_big_Add.body (endS mf_big_Add.res (.same (bigE (addR (s,l) (s2,l2))))) ⟨initTm [.dat (.agg [.int .i64 s,.sl (l.map i64L)]),.dat (.agg [.int .i64 s2,.sl (l2.map i64L)])],emp⟩:=by
 refine wp_start ?_
 simp only[mf_big_Add]
 obtain⟨hl1,hl2⟩:=hc
 by_cases hr:rightR (s,l)=true
 ·by_cases hr2:rightR (s2,l2)=true
  ·obtain⟨x,hx,e⟩:=(rightR_iff _).1 hr
   obtain⟨y,hy,e2⟩:=(rightR_iff _).1 hr2
   have hm:addR (s,l) (s2,l2)=keepB (x+y):=by rw[e,e2];exact addR_enc hx hy
   rw[hm]
   clear hm
   cases e
   cases e2
   have h1:=sign_abs x
   have h2:=sign_abs y
   have hlx:=lim_len hx
   have hly:=lim_len hy
   have hsx:=Int.sign_mul_natAbs x
   have hsy:=Int.sign_mul_natAbs y
   have tx:(x.sign=1∧0<x)∨(x.sign=0∧x=0)∨(x.sign = -1∧x<0):=by
    rcases Int.lt_trichotomy x 0 with h | h | h
    ·exact .inr (.inr ⟨Int.sign_eq_neg_one_of_neg h,h⟩)
    ·exact .inr (.inl ⟨by rw[h];rfl,h⟩)
    ·exact .inl ⟨Int.sign_eq_one_of_pos h,h⟩
   have ty:(y.sign=1∧0<y)∨(y.sign=0∧y=0)∨(y.sign = -1∧y<0):=by
    rcases Int.lt_trichotomy y 0 with h | h | h
    ·exact .inr (.inr ⟨Int.sign_eq_neg_one_of_neg h,h⟩)
    ·exact .inr (.inl ⟨by rw[h];rfl,h⟩)
    ·exact .inl ⟨Int.sign_eq_one_of_pos h,h⟩
   have hadd:=F_add_eq x.natAbs y.natAbs ⟨by omega,by omega⟩
   simp only[digs] at hadd
   have hlen:(dg (x.natAbs+y.natAbs)).length≤1000000:=by
    refine Nat.le_trans ((dg_len (k:=61)).2 ?_) (by omega)
    have:(1048576^61:Nat)=LIM*1048576:=by unfold LIM;rw[←Nat.pow_succ]
    omega
   have hor:=F_orI_eq [x.sign,y.sign] (by simp)
   simp only[List.map_cons,List.map_nil,i64L] at hor
   have hcm:=F_compare_eq x.natAbs y.natAbs ⟨by omega,by omega⟩
   simp only[digs] at hcm
   by_cases hp:x.sign*y.sign≥0
   ·have hw:IntKind.i64.wrap (x.sign*y.sign)=x.sign*y.sign:=by
     rcases tx with ⟨e,_⟩ | ⟨e,_⟩ | ⟨e,_⟩<;>rw[e]<;>exact wrap64 _ (by omega) (by omega)
    have hs:signR (orI [x.sign,y.sign]) (dg (x.natAbs+y.natAbs))=encB (x+y):=by
     refine signR_enc ?_ ?_
     ·rcases tx with ⟨e,_⟩ | ⟨e,_⟩ | ⟨e,_⟩<;>rcases ty with ⟨e',_⟩ | ⟨e',_⟩ | ⟨e',_⟩<;>rw[e,e'] at hp<;>omega
     ·intro hn
      rcases tx with ⟨e,_⟩ | ⟨e,_⟩ | ⟨e,_⟩<;>rcases ty with ⟨e',_⟩ | ⟨e',_⟩ | ⟨e',_⟩<;>rw[e,e'] at hp ⊢
      ·exact (Int.sign_eq_one_of_pos (by omega)).symm
      ·exact (Int.sign_eq_one_of_pos (by omega)).symm
      ·omega
      ·exact (Int.sign_eq_one_of_pos (by omega)).symm
      ·omega
      ·exact (Int.sign_eq_neg_one_of_neg (by omega)).symm
      ·omega
      ·exact (Int.sign_eq_neg_one_of_neg (by omega)).symm
      ·exact (Int.sign_eq_neg_one_of_neg (by omega)).symm
    simp only[go_sem,reduceIte,yA,yB,yC,yD,yE,yH,reduceCtorEq,yF,yG,yI,h_bigRight,h_orI,h_add,h_sub,h_compare,h_signed,h_checked,hr,hr2,hl1,hl2,hw,hp,decide_true,hor,hadd,hlen,hs,check_enc,bigL,bigE,pair_eta]
    repeat' (first|refine qqA ?_ ?_|refine qqB ?_ ?_|refine qqC ?_ ?_|refine qqD ?_ ?_|refine qqE ?_ ?_|refine qqF ?_ ?_)<;>intro h<;>simp only[h,go_sem,reduceIte,yA,yB,yC,yD,yE,yH,reduceCtorEq,yF,yG,yI,h_bigRight,h_orI,h_add,h_sub,h_compare,h_signed,h_checked,hr,hr2,hl1,hl2,hw,hp,decide_true,hor,hadd,hlen,hs,check_enc,bigL,bigE,pair_eta]
   ·have hw:IntKind.i64.wrap (x.sign*y.sign)=x.sign*y.sign:=by
     rcases tx with ⟨e,_⟩ | ⟨e,_⟩ | ⟨e,_⟩<;>rw[e]<;>exact wrap64 _ (by omega) (by omega)
    by_cases hlt:x.natAbs<y.natAbs
    ·have hcr:decide (cmpI x.natAbs y.natAbs<0)=true:=by unfold cmpI;rw[if_pos (by simp;omega)];rfl
     have hsub:=F_sub_eq y.natAbs x.natAbs ⟨by omega,by omega⟩
     simp only[digs] at hsub
     have hlen2:(dg (y.natAbs-x.natAbs)).length≤1000000:=Nat.le_trans (sub_len _ _) (by omega)
     have hs:signR y.sign (dg (y.natAbs-x.natAbs))=encB (x+y):=by
      refine signR_enc ?_ ?_
      ·rcases tx with ⟨e,_⟩ | ⟨e,_⟩ | ⟨e,_⟩<;>rcases ty with ⟨e',_⟩ | ⟨e',_⟩ | ⟨e',_⟩<;>rw[e,e'] at hp<;>omega
      ·intro hn
       rcases tx with ⟨e,_⟩ | ⟨e,_⟩ | ⟨e,_⟩<;>rcases ty with ⟨e',_⟩ | ⟨e',_⟩ | ⟨e',_⟩<;>rw[e,e'] at hp<;>rw[e']<;>first | omega | exact (Int.sign_eq_one_of_pos (by omega)).symm | exact (Int.sign_eq_neg_one_of_neg (by omega)).symm
     simp only[go_sem,reduceIte,yA,yB,yC,yD,yE,yH,reduceCtorEq,yF,yG,yI,h_bigRight,h_orI,h_add,h_sub,h_compare,h_signed,h_checked,hr,hr2,hl1,hl2,hw,hp,decide_false,hcm,hcr,hsub,hlen2,hs,check_enc,bigL,bigE,pair_eta]
     repeat' (first|refine qqA ?_ ?_|refine qqB ?_ ?_|refine qqC ?_ ?_|refine qqD ?_ ?_|refine qqE ?_ ?_|refine qqF ?_ ?_)<;>intro h<;>simp only[h,go_sem,reduceIte,yA,yB,yC,yD,yE,yH,reduceCtorEq,yF,yG,yI,h_bigRight,h_orI,h_add,h_sub,h_compare,h_signed,h_checked,hr,hr2,hl1,hl2,hw,hp,decide_false,hcm,hcr,hsub,hlen2,hs,check_enc,bigL,bigE,pair_eta]
    ·have hcr:decide (cmpI x.natAbs y.natAbs<0)=false:=by unfold cmpI;rw[if_neg (by simp;omega)];split<;>rfl
     have hsub:=F_sub_eq x.natAbs y.natAbs ⟨by omega,by omega⟩
     simp only[digs] at hsub
     have hlen2:(dg (x.natAbs-y.natAbs)).length≤1000000:=Nat.le_trans (sub_len _ _) (by omega)
     have hs:signR x.sign (dg (x.natAbs-y.natAbs))=encB (x+y):=by
      refine signR_enc ?_ ?_
      ·rcases tx with ⟨e,_⟩ | ⟨e,_⟩ | ⟨e,_⟩<;>rcases ty with ⟨e',_⟩ | ⟨e',_⟩ | ⟨e',_⟩<;>rw[e,e'] at hp<;>omega
      ·intro hn
       rcases tx with ⟨e,_⟩ | ⟨e,_⟩ | ⟨e,_⟩<;>rcases ty with ⟨e',_⟩ | ⟨e',_⟩ | ⟨e',_⟩<;>rw[e,e'] at hp<;>rw[e]<;>first | omega | exact (Int.sign_eq_one_of_pos (by omega)).symm | exact (Int.sign_eq_neg_one_of_neg (by omega)).symm
     simp only[go_sem,reduceIte,yA,yB,yC,yD,yE,yH,reduceCtorEq,yF,yG,yI,h_bigRight,h_orI,h_add,h_sub,h_compare,h_signed,h_checked,hr,hr2,hl1,hl2,hw,hp,decide_false,hcm,hcr,hsub,hlen2,hs,check_enc,bigL,bigE,pair_eta]
     repeat' (first|refine qqA ?_ ?_|refine qqB ?_ ?_|refine qqC ?_ ?_|refine qqD ?_ ?_|refine qqE ?_ ?_|refine qqF ?_ ?_)<;>intro h<;>simp only[h,go_sem,reduceIte,yA,yB,yC,yD,yE,yH,reduceCtorEq,yF,yG,yI,h_bigRight,h_orI,h_add,h_sub,h_compare,h_signed,h_checked,hr,hr2,hl1,hl2,hw,hp,decide_false,hcm,hcr,hsub,hlen2,hs,check_enc,bigL,bigE,pair_eta]
  ·have hr2:rightR (s2,l2)=false:=by simpa using hr2
   have hm:addR (s,l) (s2,l2)=((0,[]),1):=by unfold addR;rw[hr2,Bool.and_false];rfl
   rw[hm]
   have hch:=F_checked_eq false 0 []
   simp only[List.map_nil] at hch
   simp only[go_sem,reduceIte,yA,yB,yC,yD,yE,yH,reduceCtorEq,yF,yG,yI,h_bigRight,h_orI,h_add,h_sub,h_compare,h_signed,h_checked,hr,hr2,hl1,hl2,hch,bigL,bigE,List.map_nil]
   repeat' (first|refine qqA ?_ ?_|refine qqB ?_ ?_|refine qqC ?_ ?_|refine qqD ?_ ?_|refine qqE ?_ ?_|refine qqF ?_ ?_)<;>intro h<;>simp only[h,go_sem,reduceIte,yA,yB,yC,yD,yE,yH,reduceCtorEq,yF,yG,yI,h_bigRight,h_orI,h_add,h_sub,h_compare,h_signed,h_checked,hr,hr2,hl1,hl2,hch,bigL,bigE,List.map_nil]
 ·have hr:rightR (s,l)=false:=by simpa using hr
  have hm:addR (s,l) (s2,l2)=((0,[]),1):=by unfold addR;rw[hr,Bool.false_and];rfl
  rw[hm]
  have hch:=F_checked_eq false 0 []
  simp only[List.map_nil] at hch
  simp only[go_sem,reduceIte,yA,yB,yC,yD,yE,yH,reduceCtorEq,yF,yG,yI,h_bigRight,h_orI,h_add,h_sub,h_compare,h_signed,h_checked,hr,hl1,hl2,hch,bigL,bigE,List.map_nil]
  repeat' (first|refine qqA ?_ ?_|refine qqB ?_ ?_|refine qqC ?_ ?_|refine qqD ?_ ?_|refine qqE ?_ ?_|refine qqF ?_ ?_)<;>intro h<;>simp only[h,go_sem,reduceIte,yA,yB,yC,yD,yE,yH,reduceCtorEq,yF,yG,yI,h_bigRight,h_orI,h_add,h_sub,h_compare,h_signed,h_checked,hr,hl1,hl2,hch,bigL,bigE,List.map_nil]
end Go.Mini
namespace Go.Mini
open Go
set_option maxRecDepth 10000
set_option maxHeartbeats 2000000
theorem sign_tri (x:Int):(x.sign=1∧0<x)∨(x.sign=0∧x=0)∨(x.sign = -1∧x<0):=by
 rcases Int.lt_trichotomy x 0 with h | h | h
 ·exact .inr (.inr ⟨Int.sign_eq_neg_one_of_neg h,h⟩)
 ·exact .inr (.inl ⟨by rw[h];rfl,h⟩)
 ·exact .inl ⟨Int.sign_eq_one_of_pos h,h⟩
/-! ### Compare -/
def cmpR (a b:Raw):Int:=if (rightR a&&rightR b)=true then cmpI (valB a) (valB b) else 0
theorem cmpR_enc {x y:Int} (hx:x.natAbs<LIM) (hy:y.natAbs<LIM):cmpR (encB x) (encB y)=cmpI x y:=by
 unfold cmpR
 rw[right_enc hx,right_enc hy,valB_enc,valB_enc]
 rfl
theorem cmpI_lt {x y:Int} (h:x<y):cmpI x y = -1:=by unfold cmpI;rw[if_pos (by simpa using h)]
theorem cmpI_gt {x y:Int} (h:y<x):cmpI x y=1:=by unfold cmpI;rw[if_neg (by simp;omega),if_pos (by simpa using h)]
theorem cmpI_eq (x:Int):cmpI x x=0:=by unfold cmpI;simp
noncomputable def F_Compare:List Data→Option PRes:=FF (α:=Int × (List Int) × Int × (List Int)) (fun (s,l,s2,l2)=>([.agg [.int .i64 s,.sl (l.map i64L)],.agg [.int .i64 s2,.sl (l2.map i64L)]]:List Data)) (fun (s,l,s2,l2)=>onlyIf (l.length≤1000000∧l2.length≤1000000) (.same (.int .i64 (cmpR (s,l) (s2,l2)))))
theorem F_Compare_inj:∀ a b:Int × (List Int) × Int × (List Int),(fun (s,l,s2,l2)=>([.agg [.int .i64 s,.sl (l.map i64L)],.agg [.int .i64 s2,.sl (l2.map i64L)]]:List Data)) a=(fun (s,l,s2,l2)=>([.agg [.int .i64 s,.sl (l.map i64L)],.agg [.int .i64 s2,.sl (l2.map i64L)]]:List Data)) b→a=b:=by
  rintro⟨s1,l1,s21,l21⟩ ⟨s2,l2,s22,l22⟩ h
  simp only[yM,Data.agg.injEq,Data.int.injEq,Data.sl.injEq] at h;exact Prod.ext h.1.1.2 (Prod.ext (map_inj i64L_inj _ _ h.1.2.1) (Prod.ext h.2.1.1.2 (map_inj i64L_inj _ _ h.2.1.2.1)))
@[go_sem] theorem F_Compare_eq (s:Int) (l:List Int) (s2:Int) (l2:List Int) (hc:l.length≤1000000∧l2.length≤1000000):F_Compare [.agg [.int .i64 s,.sl (l.map i64L)],.agg [.int .i64 s2,.sl (l2.map i64L)]]=some (.same (.int .i64 (cmpR (s,l) (s2,l2)))):=(FF_eq F_Compare_inj (s,l,s2,l2)).trans (onlyIf_pos hc _)
theorem w_Compare (T:Tab) (h_bigRight:T id_big_Right=mkE F_bigRight) (h_cmpI:T id_cmp_Compare_int=mkE F_cmpI) (h_compare:T id_big_compare=mkE F_compare) (s:Int) (l:List Int) (s2:Int) (l2:List Int) (hc:l.length≤1000000∧l2.length≤1000000) :
  wp T mf_big_Compare.body (endS mf_big_Compare.res (.same (.int .i64 (cmpR (s,l) (s2,l2))))) ⟨initTm [.dat (.agg [.int .i64 s,.sl (l.map i64L)]),.dat (.agg [.int .i64 s2,.sl (l2.map i64L)])],emp⟩:=by
 refine wp_start ?_
 simp only[mf_big_Compare]
 obtain⟨hl1,hl2⟩:=hc
 by_cases hr:rightR (s,l)=true
 ·by_cases hr2:rightR (s2,l2)=true
  ·obtain⟨x,hx,e⟩:=(rightR_iff _).1 hr
   obtain⟨y,hy,e2⟩:=(rightR_iff _).1 hr2
   have hm:cmpR (s,l) (s2,l2)=cmpI x y:=by rw[e,e2];exact cmpR_enc hx hy
   rw[hm]
   clear hm
   cases e
   cases e2
   have hlx:=lim_len hx
   have hly:=lim_len hy
   have hcm:=F_compare_eq x.natAbs y.natAbs ⟨by omega,by omega⟩
   simp only[digs] at hcm
   by_cases hs:x.sign=y.sign
   ·have hse:(x.sign==y.sign)=true:=by simpa using hs
    have hres:IntKind.i64.wrap (y.sign*cmpI x.natAbs y.natAbs)=cmpI x y:=by
     rcases sign_tri x with ⟨e,h1⟩ | ⟨e,h1⟩ | ⟨e,h1⟩<;>rcases sign_tri y with ⟨e',h2⟩ | ⟨e',h2⟩ | ⟨e',h2⟩<;>rw[e,e'] at hs<;>first | omega | skip
     ·rw[e',Int.one_mul,show (x.natAbs:Int)=x by omega,show (y.natAbs:Int)=y by omega]
      rcases Int.lt_trichotomy x y with h | h | h
      ·rw[cmpI_lt h];rfl
      ·rw[h,cmpI_eq];rfl
      ·rw[cmpI_gt h];rfl
     ·rw[e',h1,h2];rfl
     ·rw[e']
      rcases Int.lt_trichotomy x y with h | h | h
      ·rw[cmpI_lt h,cmpI_gt (by omega)];rfl
      ·rw[h,cmpI_eq,cmpI_eq];rfl
      ·rw[cmpI_gt h,cmpI_lt (by omega)];rfl
    rw[←hs] at hres
    simp only[go_sem,reduceIte,yA,yB,yC,yD,yE,yH,reduceCtorEq,yF,yG,yI,h_bigRight,h_cmpI,h_compare,hr,hr2,hl1,hl2,hse,hcm,hres]
    repeat' (first|refine qqA ?_ ?_|refine qqB ?_ ?_|refine qqC ?_ ?_|refine qqD ?_ ?_|refine qqE ?_ ?_|refine qqF ?_ ?_)<;>intro h<;>simp only[h,go_sem,reduceIte,yA,yB,yC,yD,yE,yH,reduceCtorEq,yF,yG,yI,h_bigRight,h_cmpI,h_compare,hr,hr2,hl1,hl2,hse,hcm,hres]
   ·have hse:(x.sign==y.sign)=false:=by simpa using hs
    have hres:cmpI x.sign y.sign=cmpI x y:=by
     rcases sign_tri x with ⟨e,h1⟩ | ⟨e,h1⟩ | ⟨e,h1⟩<;>rcases sign_tri y with ⟨e',h2⟩ | ⟨e',h2⟩ | ⟨e',h2⟩<;>rw[e,e'] at hs ⊢<;>first | omega | (rw[cmpI_lt (show x<y by omega)];rfl) | (rw[cmpI_gt (show y<x by omega)];rfl)
    simp only[go_sem,reduceIte,yA,yB,yC,yD,yE,yH,reduceCtorEq,yF,yG,yI,h_bigRight,h_cmpI,h_compare,hr,hr2,hl1,hl2,hse,hres]
    repeat' (first|refine qqA ?_ ?_|refine qqB ?_ ?_|refine qqC ?_ ?_|refine qqD ?_ ?_|refine qqE ?_ ?_|refine qqF ?_ ?_)<;>intro h<;>simp only[h,go_sem,reduceIte,yA,yB,yC,yD,yE,yH,reduceCtorEq,yF,yG,yI,h_bigRight,h_cmpI,h_compare,hr,hr2,hl1,hl2,hse,hres]
  ·have hr2:rightR (s2,l2)=false:=by simpa using hr2
   have hm:cmpR (s,l) (s2,l2)=0:=by unfold cmpR;rw[hr2,Bool.and_false];rfl
   rw[hm]
   simp only[go_sem,reduceIte,yA,yB,yC,yD,yE,yH,reduceCtorEq,yF,yG,yI,h_bigRight,h_cmpI,h_compare,hr,hr2,hl1,hl2]
   repeat' (first|refine qqA ?_ ?_|refine qqB ?_ ?_|refine qqC ?_ ?_|refine qqD ?_ ?_|refine qqE ?_ ?_|refine qqF ?_ ?_)<;>intro h<;>simp only[h,go_sem,reduceIte,yA,yB,yC,yD,yE,yH,reduceCtorEq,yF,yG,yI,h_bigRight,h_cmpI,h_compare,hr,hr2,hl1,hl2]
 ·have hr:rightR (s,l)=false:=by simpa using hr
  have hm:cmpR (s,l) (s2,l2)=0:=by unfold cmpR;rw[hr,Bool.false_and];rfl
  rw[hm]
  simp only[go_sem,reduceIte,yA,yB,yC,yD,yE,yH,reduceCtorEq,yF,yG,yI,h_bigRight,h_cmpI,h_compare,hr,hl1,hl2]
  repeat' (first|refine qqA ?_ ?_|refine qqB ?_ ?_|refine qqC ?_ ?_|refine qqD ?_ ?_|refine qqE ?_ ?_|refine qqF ?_ ?_)<;>intro h<;>simp only[h,go_sem,reduceIte,yA,yB,yC,yD,yE,yH,reduceCtorEq,yF,yG,yI,h_bigRight,h_cmpI,h_compare,hr,hl1,hl2]
/-! ### Gcd -/
def gcdR (a b:Raw):Raw × Int:=if (rightR a&&rightR b)=true then (encB (Nat.gcd (valB a).natAbs (valB b).natAbs:Nat),0) else ((0,[]),1)
theorem gcd_lim {x y:Int} (hx:x.natAbs<LIM) (hy:y.natAbs<LIM):Nat.gcd x.natAbs y.natAbs<LIM:=by
 rcases Nat.eq_zero_or_pos x.natAbs with h | h
 ·rw[h,Nat.gcd_zero_left];exact hy
 ·exact Nat.lt_of_le_of_lt (Nat.gcd_le_left _ h) hx
noncomputable def F_Gcd:List Data→Option PRes:=FF (α:=Int × (List Int) × Int × (List Int)) (fun (s,l,s2,l2)=>([.agg [.int .i64 s,.sl (l.map i64L)],.agg [.int .i64 s2,.sl (l2.map i64L)]]:List Data)) (fun (s,l,s2,l2)=>onlyIf (l.length≤1000000∧l2.length≤1000000) (.same (bigE (gcdR (s,l) (s2,l2)))))
theorem F_Gcd_inj:∀ a b:Int × (List Int) × Int × (List Int),(fun (s,l,s2,l2)=>([.agg [.int .i64 s,.sl (l.map i64L)],.agg [.int .i64 s2,.sl (l2.map i64L)]]:List Data)) a=(fun (s,l,s2,l2)=>([.agg [.int .i64 s,.sl (l.map i64L)],.agg [.int .i64 s2,.sl (l2.map i64L)]]:List Data)) b→a=b:=by
  rintro⟨s1,l1,s21,l21⟩ ⟨s2,l2,s22,l22⟩ h
  simp only[yM,Data.agg.injEq,Data.int.injEq,Data.sl.injEq] at h;exact Prod.ext h.1.1.2 (Prod.ext (map_inj i64L_inj _ _ h.1.2.1) (Prod.ext h.2.1.1.2 (map_inj i64L_inj _ _ h.2.1.2.1)))
@[go_sem] theorem F_Gcd_eq (s:Int) (l:List Int) (s2:Int) (l2:List Int) (hc:l.length≤1000000∧l2.length≤1000000):F_Gcd [.agg [.int .i64 s,.sl (l.map i64L)],.agg [.int .i64 s2,.sl (l2.map i64L)]]=some (.same (bigE (gcdR (s,l) (s2,l2)))):=(FF_eq F_Gcd_inj (s,l,s2,l2)).trans (onlyIf_pos hc _)
theorem w_Gcd (T:Tab) (h_bigRight:T id_big_Right=mkE F_bigRight) (h_clone:T id_slices_Clone_int=mkE F_clone) (h_div:T id_big_div=mkE F_div) (h_signed:T id_big_signed=mkE F_signed) (h_checked:T id_big_checked=mkE F_checked) (s:Int) (l:List Int) (s2:Int) (l2:List Int) (hc:l.length≤1000000∧l2.length≤1000000) :
  wp T mf_big_Gcd.body (endS mf_big_Gcd.res (.same (bigE (gcdR (s,l) (s2,l2))))) ⟨initTm [.dat (.agg [.int .i64 s,.sl (l.map i64L)]),.dat (.agg [.int .i64 s2,.sl (l2.map i64L)])],emp⟩:=by
 refine wp_start ?_
 simp only[mf_big_Gcd]
 obtain⟨hl1,hl2⟩:=hc
 by_cases hr:rightR (s,l)=true
 ·by_cases hr2:rightR (s2,l2)=true
  ·obtain⟨x,hx,e⟩:=(rightR_iff _).1 hr
   obtain⟨y,hy,e2⟩:=(rightR_iff _).1 hr2
   have hm:gcdR (s,l) (s2,l2)=(encB (Nat.gcd x.natAbs y.natAbs:Nat),0):=by
    rw[e,e2];unfold gcdR
    rw[right_enc hx,right_enc hy,valB_enc,valB_enc]
    rfl
   rw[hm]
   clear hm
   cases e
   cases e2
   have hlx:=lim_len hx
   have hly:=lim_len hy
   have hg:=gcd_lim hx hy
   generalize hX:x.natAbs=X at *
   generalize hY:y.natAbs=Y at *
   have hl1':(dg X).length≤1000000:=by omega
   simp only[go_sem,reduceIte,yA,yB,yC,yD,yE,yH,reduceCtorEq,yF,yG,yI,h_bigRight,h_clone,h_div,h_signed,h_checked,hr,hr2,hX,hY,hl1,hl2,hl1',i64L,yJ]
   refine wp_loop_keep [4] [137004] (fun ((a,b):Nat × Nat) tm mem=>a<LIM∧b<LIM∧Nat.gcd X Y=Nat.gcd a b∧tm 6 = .dat (.sl ((dg a).map i64L))∧tm 7 = .dat (.sl ((dg b).map i64L))) (fun (_,b)=>b) (X,Y) (by refine⟨hx,hy,rfl,rfl,rfl⟩) ?_
   intro vs ms hvs hms
   simp only[go_sem,reduceIte,yA,yB,yC,yD,yE,yH,reduceCtorEq,yF,yG,yI,h_bigRight,h_clone,h_div,h_signed,h_checked,hX,hY] at hvs hms
   subst hvs hms
   rintro⟨a,b⟩ tm mem hk hm ⟨ha,hb,hgc,h6,h7⟩
   simp only[go_sem,reduceIte,yA,yB,yC,yD,yE,yH,reduceCtorEq,yF,yG,yI,h_bigRight,h_clone,h_div,h_signed,h_checked,yM] at hk hm
   have h4:=hk
   have hla:(dg a).length≤60:=dg_len.2 ha
   have hlb:(dg b).length≤60:=dg_len.2 hb
   rcases Nat.eq_zero_or_pos b with h0 | hpos
   ·subst h0
    have hz:dg 0=[]:=rfl
    have hla':(dg a).length≤1000000:=by omega
    rw[Nat.gcd_zero_right] at hgc
    have hs:signR 1 (dg a)=encB ((a:Nat):Int):=signR_enc (by simp) fun hn=>(Int.sign_eq_one_of_pos (by omega)).symm
    have hk:keepB ((a:Nat):Int)=(encB ((a:Nat):Int),0):=by unfold keepB;rw[if_pos (by simpa using ha)]
    rw[hgc]
    simp only[go_sem,reduceIte,yA,yB,yC,yD,yE,yH,reduceCtorEq,yF,yG,yI,h_bigRight,h_clone,h_div,h_signed,h_checked,h4,h6,h7,hm,hz,hla',hs,hk,check_enc,bigL,bigE,pair_eta,List.map_nil,List.length_nil,Int.natCast_zero,Int.cast_ofNat_Int,show ¬ ((0:Int)>0) by omega,decide_false]
    repeat' (first|refine qqA ?_ ?_|refine qqB ?_ ?_|refine qqC ?_ ?_|refine qqD ?_ ?_|refine qqE ?_ ?_|refine qqF ?_ ?_)<;>intro h<;>simp only[h,go_sem,reduceIte,yA,yB,yC,yD,yE,yH,reduceCtorEq,yF,yG,yI,h_bigRight,h_clone,h_div,h_signed,h_checked,h4,h6,h7,hm,hz,hla',hs,hk,check_enc,bigL,bigE,pair_eta,List.map_nil,List.length_nil,Int.natCast_zero,Int.cast_ofNat_Int,show ¬ ((0:Int)>0) by omega,decide_false]
   ·have hne:decide (((dg b).length:Int)>0)=true:=by
     have:dg b≠[]:=by rw[Ne,dg_nil];omega
     have:=List.length_pos_iff.2 this
     exact decide_eq_true (by omega)
    have hdiv:=F_div_eq a b ⟨by omega,by omega,hpos⟩
    simp only[digs] at hdiv
    simp only[go_sem,reduceIte,yA,yB,yC,yD,yE,yH,reduceCtorEq,yF,yG,yI,h_bigRight,h_clone,h_div,h_signed,h_checked,h4,h6,h7,hm,hne,hdiv,yJ]
    repeat' (first|refine qqA ?_ ?_|refine qqB ?_ ?_|refine qqC ?_ ?_|refine qqD ?_ ?_|refine qqE ?_ ?_|refine qqF ?_ ?_)<;>intro h<;>simp only[h,go_sem,reduceIte,yA,yB,yC,yD,yE,yH,reduceCtorEq,yF,yG,yI,h_bigRight,h_clone,h_div,h_signed,h_checked,h4,h6,h7,hm,hne,hdiv,yJ]
    exact⟨(b,a % b),Nat.mod_lt _ hpos,hb,Nat.lt_of_le_of_lt (Nat.mod_le _ _) ha,by dsimp only;rw[hgc,Nat.gcd_comm a b,Nat.gcd_rec b a,Nat.gcd_comm],rfl,rfl⟩
  ·have hr2:rightR (s2,l2)=false:=by simpa using hr2
   have hm:gcdR (s,l) (s2,l2)=((0,[]),1):=by unfold gcdR;rw[hr2,Bool.and_false];rfl
   rw[hm]
   have hch:=F_checked_eq false 0 []
   simp only[List.map_nil] at hch
   simp only[go_sem,reduceIte,yA,yB,yC,yD,yE,yH,reduceCtorEq,yF,yG,yI,h_bigRight,h_clone,h_div,h_signed,h_checked,hr,hr2,hl1,hl2,hch,bigL,bigE,List.map_nil]
   repeat' (first|refine qqA ?_ ?_|refine qqB ?_ ?_|refine qqC ?_ ?_|refine qqD ?_ ?_|refine qqE ?_ ?_|refine qqF ?_ ?_)<;>intro h<;>simp only[h,go_sem,reduceIte,yA,yB,yC,yD,yE,yH,reduceCtorEq,yF,yG,yI,h_bigRight,h_clone,h_div,h_signed,h_checked,hr,hr2,hl1,hl2,hch,bigL,bigE,List.map_nil]
 ·have hr:rightR (s,l)=false:=by simpa using hr
  have hm:gcdR (s,l) (s2,l2)=((0,[]),1):=by unfold gcdR;rw[hr,Bool.false_and];rfl
  rw[hm]
  have hch:=F_checked_eq false 0 []
  simp only[List.map_nil] at hch
  simp only[go_sem,reduceIte,yA,yB,yC,yD,yE,yH,reduceCtorEq,yF,yG,yI,h_bigRight,h_clone,h_div,h_signed,h_checked,hr,hl1,hl2,hch,bigL,bigE,List.map_nil]
  repeat' (first|refine qqA ?_ ?_|refine qqB ?_ ?_|refine qqC ?_ ?_|refine qqD ?_ ?_|refine qqE ?_ ?_|refine qqF ?_ ?_)<;>intro h<;>simp only[h,go_sem,reduceIte,yA,yB,yC,yD,yE,yH,reduceCtorEq,yF,yG,yI,h_bigRight,h_clone,h_div,h_signed,h_checked,hr,hl1,hl2,hch,bigL,bigE,List.map_nil]
end Go.Mini
namespace Go.Mini
open Go
set_option maxRecDepth 10000
set_option maxHeartbeats 2000000
/-! ### Div -/
def divR (a b:Raw):Raw × Raw × Int :=
 if (rightR a&&rightR b)=true then
  if valB b=0 then ((0,[]),(0,[]),15) else (encB ((valB a).fdiv (valB b)),encB ((valB a).fmod (valB b)),0)
 else ((0,[]),(0,[]),1)
def bigE2 (x:Raw × Raw × Int):Data:=.tup [.agg (bigL x.1),.agg (bigL x.2.1),.int .i64 x.2.2]
theorem fdiv_eq {x y q r:Int} (h:r+y*q=x) (hr:(0≤r∧r<y)∨(y<r∧r≤0)):x.fdiv y=q∧x.fmod y=r:=by
 rcases hr with ⟨h1,h2⟩ | ⟨h1,h2⟩
 ·exact (Int.fdiv_fmod_unique (by omega)).2 ⟨h,h1,h2⟩
 ·exact (Int.fdiv_fmod_unique' (by omega)).2 ⟨h,h1,h2⟩
/-- Quotient and remainder of signs and sizes. -/
theorem floor_low {x y:Int} (h:x.sign*y.sign<0) (hm:x.natAbs % y.natAbs≠0) :
  x.fdiv y = -((x.natAbs / y.natAbs+1:Nat):Int)∧x.fmod y=y.sign*((y.natAbs-x.natAbs % y.natAbs:Nat):Int):=by
 have h2:=Nat.div_add_mod x.natAbs y.natAbs
 generalize hQ:x.natAbs / y.natAbs=Q at *
 generalize hR:x.natAbs % y.natAbs=R at *
 have hy:0<y.natAbs:=by
  rcases Nat.eq_zero_or_pos y.natAbs with h0 | h0
  ·rw[Int.natAbs_eq_zero.1 h0] at h;simp at h
  ·exact h0
 have hlt:R<y.natAbs:=by rw[←hR];exact Nat.mod_lt _ hy
 have h2':(y.natAbs:Int)*Q+R=x.natAbs:=by exact_mod_cast h2
 refine fdiv_eq ?_ ?_
 ·rcases sign_tri x with ⟨e,h1⟩ | ⟨e,h1⟩ | ⟨e,h1⟩<;>rcases sign_tri y with ⟨e',h3⟩ | ⟨e',h3⟩ | ⟨e',h3⟩<;>rw[e,e'] at h<;>first | omega | rw[e']
  ·rw[Int.ofNat_sub (by omega),Int.natCast_add,Int.mul_neg,Int.mul_add]
   have:(y.natAbs:Int) = -y:=by omega
   rw[this] at h2' ⊢
   rw[Int.neg_mul] at h2'
   omega
  ·rw[Int.ofNat_sub (by omega),Int.natCast_add,Int.mul_neg,Int.mul_add]
   have:(y.natAbs:Int)=y:=by omega
   rw[this] at h2' ⊢
   omega
 ·rcases sign_tri y with ⟨e',h3⟩ | ⟨e',h3⟩ | ⟨e',h3⟩<;>rw[e']<;>omega
theorem floor_plain {x y:Int} (hy:y≠0) (h:¬ (x.sign*y.sign<0∧x.natAbs % y.natAbs≠0)) :
  x.fdiv y=x.sign*y.sign*((x.natAbs / y.natAbs:Nat):Int)∧x.fmod y=x.sign*((x.natAbs % y.natAbs:Nat):Int):=by
 have h2:=Nat.div_add_mod x.natAbs y.natAbs
 have hlt:x.natAbs % y.natAbs<y.natAbs:=Nat.mod_lt _ (by omega)
 generalize hQ:x.natAbs / y.natAbs=Q at *
 generalize hR:x.natAbs % y.natAbs=R at *
 have h2':(y.natAbs:Int)*Q+R=x.natAbs:=by exact_mod_cast h2
 refine fdiv_eq ?_ ?_
 ·rcases sign_tri x with ⟨e,h1⟩ | ⟨e,h1⟩ | ⟨e,h1⟩<;>rcases sign_tri y with ⟨e',h3⟩ | ⟨e',h3⟩ | ⟨e',h3⟩<;>first | omega | (rw[e,e'])
  ·rw[show (y.natAbs:Int)=y by omega] at h2';simp only[Int.one_mul];omega
  ·rw[show (y.natAbs:Int) = -y by omega,Int.neg_mul] at h2';simp only[Int.one_mul,Int.neg_mul,Int.mul_neg];omega
  ·simp only[Int.zero_mul,Int.mul_zero];omega
  ·simp only[Int.zero_mul,Int.mul_zero];omega
  ·rw[show (y.natAbs:Int)=y by omega] at h2';simp only[Int.one_mul,Int.neg_mul,Int.mul_neg,Int.mul_one];omega
  ·rw[show (y.natAbs:Int) = -y by omega,Int.neg_mul] at h2';simp only[Int.one_mul,Int.neg_mul,Int.mul_neg,Int.neg_neg];omega
 ·have hR0:x.natAbs=0→R=0:=by
   intro h0
   rw[←hR,h0,Nat.zero_mod]
  rcases sign_tri x with ⟨e,h1⟩ | ⟨e,h1⟩ | ⟨e,h1⟩<;>rcases sign_tri y with ⟨e',h3⟩ | ⟨e',h3⟩ | ⟨e',h3⟩<;>rw[e,e'] at h<;>rw[e]<;>omega
theorem fdiv_lim {x y:Int} (hx:x.natAbs<LIM) (hy0:y≠0):(x.fdiv y).natAbs<LIM:=by
 by_cases h:x.sign*y.sign<0∧x.natAbs % y.natAbs≠0
 ·have hf:=(floor_low h.1 h.2).1
  have h2:=Nat.div_add_mod x.natAbs y.natAbs
  have:x.natAbs / y.natAbs+1≤x.natAbs:=by
   have hy2:2≤y.natAbs:=by
    rcases Nat.lt_or_ge y.natAbs 2 with h0 | h0
    ·have:y.natAbs=1:=by omega
     rw[this,Nat.mod_one] at h
     exact absurd rfl h.2
    ·exact h0
   have h3:2*(x.natAbs / y.natAbs)≤y.natAbs*(x.natAbs / y.natAbs):=Nat.mul_le_mul_right _ hy2
   omega
  generalize x.natAbs / y.natAbs=Q at *
  omega
 ·have hf:=(floor_plain hy0 h).1
  have h3:x.natAbs / y.natAbs≤x.natAbs:=Nat.div_le_self _ _
  have h4:(x.fdiv y).natAbs≤x.natAbs / y.natAbs:=by
   rw[hf,Int.natAbs_mul,Int.natAbs_mul,Int.natAbs_natCast]
   have h1:x.sign.natAbs≤1:=by have:=sign_abs x;omega
   have h2:y.sign.natAbs≤1:=by have:=sign_abs y;omega
   have:=Nat.mul_le_mul h1 h2
   have:=Nat.mul_le_mul_right (x.natAbs / y.natAbs) this
   omega
  omega
theorem fmod_lim {x y:Int} (hy:y.natAbs<LIM) (hy0:y≠0):(x.fmod y).natAbs<LIM:=by
 by_cases h:x.sign*y.sign<0∧x.natAbs % y.natAbs≠0
 ·have hf:=(floor_low h.1 h.2).2
  rcases sign_tri y with ⟨e',h3⟩ | ⟨e',h3⟩ | ⟨e',h3⟩<;>rw[e'] at hf<;>omega
 ·have hf:=(floor_plain hy0 h).2
  have hlt:x.natAbs % y.natAbs<y.natAbs:=Nat.mod_lt _ (by omega)
  rcases sign_tri x with ⟨e',h3⟩ | ⟨e',h3⟩ | ⟨e',h3⟩<;>rw[e'] at hf<;>omega
theorem divR_enc {x y:Int} (hx:x.natAbs<LIM) (hy:y.natAbs<LIM) (h0:y≠0):divR (encB x) (encB y)=(encB (x.fdiv y),encB (x.fmod y),0):=by
 unfold divR
 rw[right_enc hx,right_enc hy,valB_enc,valB_enc,if_pos (by rfl),if_neg h0]
noncomputable def F_Div:List Data→Option PRes:=FF (α:=Int × (List Int) × Int × (List Int)) (fun (s,l,s2,l2)=>([.agg [.int .i64 s,.sl (l.map i64L)],.agg [.int .i64 s2,.sl (l2.map i64L)]]:List Data)) (fun (s,l,s2,l2)=>onlyIf (l.length≤1000000∧l2.length≤1000000) (.same (bigE2 (divR (s,l) (s2,l2)))))
theorem F_Div_inj:∀ a b:Int × (List Int) × Int × (List Int),(fun (s,l,s2,l2)=>([.agg [.int .i64 s,.sl (l.map i64L)],.agg [.int .i64 s2,.sl (l2.map i64L)]]:List Data)) a=(fun (s,l,s2,l2)=>([.agg [.int .i64 s,.sl (l.map i64L)],.agg [.int .i64 s2,.sl (l2.map i64L)]]:List Data)) b→a=b:=by
  rintro⟨s1,l1,s21,l21⟩ ⟨s2,l2,s22,l22⟩ h
  simp only[yM,Data.agg.injEq,Data.int.injEq,Data.sl.injEq] at h;exact Prod.ext h.1.1.2 (Prod.ext (map_inj i64L_inj _ _ h.1.2.1) (Prod.ext h.2.1.1.2 (map_inj i64L_inj _ _ h.2.1.2.1)))
@[go_sem] theorem F_Div_eq (s:Int) (l:List Int) (s2:Int) (l2:List Int) (hc:l.length≤1000000∧l2.length≤1000000):F_Div [.agg [.int .i64 s,.sl (l.map i64L)],.agg [.int .i64 s2,.sl (l2.map i64L)]]=some (.same (bigE2 (divR (s,l) (s2,l2)))):=(FF_eq F_Div_inj (s,l,s2,l2)).trans (onlyIf_pos hc _)
theorem w_Div (T:Tab) (h_bigRight:T id_big_Right=mkE F_bigRight) (h_div:T id_big_div=mkE F_div) (h_add:T id_big_add=mkE F_add) (h_sub:T id_big_sub=mkE F_sub) (h_signed:T id_big_signed=mkE F_signed) (s:Int) (l:List Int) (s2:Int) (l2:List Int) (hc:l.length≤1000000∧l2.length≤1000000) :
  wp T mf_big_Div.body (endS mf_big_Div.res (.same (bigE2 (divR (s,l) (s2,l2))))) ⟨initTm [.dat (.agg [.int .i64 s,.sl (l.map i64L)]),.dat (.agg [.int .i64 s2,.sl (l2.map i64L)])],emp⟩:=by
 refine wp_start ?_
 simp only[mf_big_Div]
 obtain⟨hl1,hl2⟩:=hc
 by_cases hr:rightR (s,l)=true
 ·by_cases hr2:rightR (s2,l2)=true
  ·obtain⟨x,hx,e⟩:=(rightR_iff _).1 hr
   obtain⟨y,hy,e2⟩:=(rightR_iff _).1 hr2
   by_cases hy0:y=0
   ·have hm:divR (s,l) (s2,l2)=((0,[]),(0,[]),15):=by
     rw[e,e2];unfold divR
     rw[right_enc hx,right_enc hy,valB_enc,valB_enc,if_pos (by rfl),if_pos hy0]
    rw[hm]
    cases e
    cases e2
    have h0:((y.sign:Int)==0)=true:=by rw[hy0];rfl
    simp only[go_sem,reduceIte,yA,yB,yC,yD,yE,yH,reduceCtorEq,yF,yG,yI,h_bigRight,h_div,h_add,h_sub,h_signed,hr,hr2,hl1,hl2,h0,bigL,bigE2,List.map_nil]
    repeat' (first|refine qqA ?_ ?_|refine qqB ?_ ?_|refine qqC ?_ ?_|refine qqD ?_ ?_|refine qqE ?_ ?_|refine qqF ?_ ?_)<;>intro h<;>simp only[h,go_sem,reduceIte,yA,yB,yC,yD,yE,yH,reduceCtorEq,yF,yG,yI,h_bigRight,h_div,h_add,h_sub,h_signed,hr,hr2,hl1,hl2,h0,bigL,bigE2,List.map_nil]
   ·have hm:divR (s,l) (s2,l2)=(encB (x.fdiv y),encB (x.fmod y),0):=by
     rw[e,e2];exact divR_enc hx hy hy0
    rw[hm]
    clear hm
    cases e
    cases e2
    have hlx:=lim_len hx
    have hly:=lim_len hy
    have hy0':(y.sign==0)=false:=by rw[beq_eq_false_iff_ne,Ne,Int.sign_eq_zero_iff_zero];exact hy0
    have hypos:0<y.natAbs:=by omega
    have h1:=sign_abs x
    have h2:=sign_abs y
    have hp:x.sign*y.sign=(x*y).sign:=(Int.sign_mul x y).symm
    have h3:=sign_abs (x*y)
    have hw:IntKind.i64.wrap (x.sign*y.sign)=x.sign*y.sign:=by rw[hp];exact wrap64 _ (by omega) (by omega)
    have hdiv:=F_div_eq x.natAbs y.natAbs ⟨by omega,by omega,hypos⟩
    simp only[digs] at hdiv
    have hq:=fdiv_lim (y:=y) hx hy0
    have hr3:=fmod_lim (x:=x) hy hy0
    have hlq:x.natAbs / y.natAbs<LIM:=Nat.lt_of_le_of_lt (Nat.div_le_self _ _) hx
    have hlq':(dg (x.natAbs / y.natAbs)).length≤60:=dg_len.2 hlq
    have hlr:x.natAbs % y.natAbs<LIM:=Nat.lt_trans (Nat.mod_lt _ hypos) hy
    have hlr':(dg (x.natAbs % y.natAbs)).length≤60:=dg_len.2 hlr
    by_cases hlow:x.sign*y.sign<0∧x.natAbs % y.natAbs≠0
    ·obtain⟨eq,er⟩:=floor_low hlow.1 hlow.2
     have hne:decide (((dg (x.natAbs % y.natAbs)).length:Int)>0)=true:=by
      have:dg (x.natAbs % y.natAbs)≠[]:=by rw[Ne,dg_nil];exact hlow.2
      have:=List.length_pos_iff.2 this
      exact decide_eq_true (by omega)
     have hneg:decide (x.sign*y.sign<0)=true:=decide_eq_true hlow.1
     have hd1:dg 1=[1]:=by simp [dg,dgF]
     have hl1d:(dg 1).length=1:=by rw[hd1];rfl
     have hadd:=F_add_eq (x.natAbs / y.natAbs) 1 ⟨by omega,by omega⟩
     simp only[digs,hd1,List.map_cons,List.map_nil,i64L] at hadd
     have hsub:=F_sub_eq y.natAbs (x.natAbs % y.natAbs) ⟨by omega,Nat.le_of_lt (Nat.mod_lt _ hypos)⟩
     simp only[digs] at hsub
     have hla:(dg (x.natAbs / y.natAbs+1)).length≤1000000:=by
      have:(x.natAbs / y.natAbs+1)<LIM:=by rw[eq] at hq;rw[Int.natAbs_neg,Int.natAbs_natCast] at hq;exact hq
      have:=(dg_len (k:=60)).2 this
      omega
     have hlb:(dg (y.natAbs-x.natAbs % y.natAbs)).length≤1000000:=by have:=sub_len y.natAbs (x.natAbs % y.natAbs);omega
     have hs1:signR (-1) (dg (x.natAbs / y.natAbs+1))=encB (x.fdiv y):=signR_enc (by rw[eq,Int.natAbs_neg,Int.natAbs_natCast]) fun _=>by rw[eq,Int.sign_neg,Int.sign_eq_one_of_pos (show (0:Int)<((x.natAbs / y.natAbs+1:Nat):Int) by exact Int.natCast_pos.2 (Nat.succ_pos _))]
     have hs2:signR y.sign (dg (y.natAbs-x.natAbs % y.natAbs))=encB (x.fmod y):=by
      refine signR_enc ?_ fun hn=>?_
      ·rw[er];rcases sign_tri y with ⟨e',h3⟩ | ⟨e',h3⟩ | ⟨e',h3⟩<;>rw[e']<;>omega
      ·rw[er,Int.sign_mul,Int.sign_sign,Int.sign_eq_one_of_pos (show (0:Int)<((y.natAbs-x.natAbs % y.natAbs:Nat):Int) by omega),Int.mul_one]
     simp only[go_sem,reduceIte,yA,yB,yC,yD,yE,yH,reduceCtorEq,yF,yG,yI,h_bigRight,h_div,h_add,h_sub,h_signed,hr,hr2,hl1,hl2,hy0',hw,hdiv,hne,hneg,hadd,hsub,hla,hlb,hs1,hs2,i64L,yJ,bigL,bigE2,pair_eta]
     repeat' (first|refine qqA ?_ ?_|refine qqB ?_ ?_|refine qqC ?_ ?_|refine qqD ?_ ?_|refine qqE ?_ ?_|refine qqF ?_ ?_)<;>intro h<;>simp only[h,go_sem,reduceIte,yA,yB,yC,yD,yE,yH,reduceCtorEq,yF,yG,yI,h_bigRight,h_div,h_add,h_sub,h_signed,hr,hr2,hl1,hl2,hy0',hw,hdiv,hne,hneg,hadd,hsub,hla,hlb,hs1,hs2,i64L,yJ,bigL,bigE2,pair_eta]
    ·obtain⟨eq,er⟩:=floor_plain hy0 hlow
     have hlow':(decide (x.sign*y.sign<0)=true∧decide (((dg (x.natAbs % y.natAbs)).length:Int)>0)=false)∨decide (x.sign*y.sign<0)=false:=by
      by_cases hn:x.sign*y.sign<0
      ·left
       have:x.natAbs % y.natAbs=0:=Decidable.not_not.1 fun h=>hlow ⟨hn,h⟩
       rw[this];exact⟨decide_eq_true hn,rfl⟩
      ·right;exact decide_eq_false hn
     have hla:(dg (x.natAbs / y.natAbs)).length≤1000000:=by omega
     have hlb:(dg (x.natAbs % y.natAbs)).length≤1000000:=by omega
     have hs1:signR (x.sign*y.sign) (dg (x.natAbs / y.natAbs))=encB (x.fdiv y):=by
      refine signR_enc ?_ fun hn=>?_
      ·rw[eq]
       have hgen:∀ Q:Nat,(x=0→Q=0)→(x.sign*y.sign*(Q:Int)).natAbs=Q:=by
        intro Q h0
        rcases sign_tri x with ⟨e,h1⟩ | ⟨e,h1⟩ | ⟨e,h1⟩<;>rcases sign_tri y with ⟨e',h3⟩ | ⟨e',h3⟩ | ⟨e',h3⟩<;>rw[e,e']<;>first | omega | (rw[h0 h1];rfl)
       exact hgen _ fun h0=>by rw[h0];exact Nat.zero_div _
      ·rw[eq,hp,Int.sign_mul,Int.sign_mul,Int.sign_mul,Int.sign_sign,Int.sign_sign,Int.sign_eq_one_of_pos (show (0:Int)<((x.natAbs / y.natAbs:Nat):Int) from Int.natCast_pos.2 (Nat.pos_of_ne_zero hn)),Int.mul_one]
     have hs2:signR x.sign (dg (x.natAbs % y.natAbs))=encB (x.fmod y):=by
      refine signR_enc ?_ fun hn=>?_
      ·rw[er]
       have hgen:∀ Q:Nat,(x=0→Q=0)→(x.sign*(Q:Int)).natAbs=Q:=by
        intro Q h0
        rcases sign_tri x with ⟨e,h1⟩ | ⟨e,h1⟩ | ⟨e,h1⟩<;>rw[e]<;>first | omega | (rw[h0 h1];rfl)
       exact hgen _ fun h0=>by rw[h0];exact Nat.zero_mod _
      ·rw[er,Int.sign_mul,Int.sign_sign,Int.sign_eq_one_of_pos (show (0:Int)<((x.natAbs % y.natAbs:Nat):Int) from Int.natCast_pos.2 (Nat.pos_of_ne_zero hn)),Int.mul_one]
     rcases hlow' with ⟨hlow1,hlow2⟩ | hlow1
     ·simp only[go_sem,reduceIte,yA,yB,yC,yD,yE,yH,reduceCtorEq,yF,yG,yI,h_bigRight,h_div,h_add,h_sub,h_signed,hr,hr2,hl1,hl2,hy0',hw,hdiv,hlow1,hlow2,hla,hlb,hs1,hs2,i64L,yJ,bigL,bigE2,pair_eta]
      repeat' (first|refine qqA ?_ ?_|refine qqB ?_ ?_|refine qqC ?_ ?_|refine qqD ?_ ?_|refine qqE ?_ ?_|refine qqF ?_ ?_)<;>intro h<;>simp only[h,go_sem,reduceIte,yA,yB,yC,yD,yE,yH,reduceCtorEq,yF,yG,yI,h_bigRight,h_div,h_add,h_sub,h_signed,hr,hr2,hl1,hl2,hy0',hw,hdiv,hlow1,hlow2,hla,hlb,hs1,hs2,i64L,yJ,bigL,bigE2,pair_eta]
     ·simp only[go_sem,reduceIte,yA,yB,yC,yD,yE,yH,reduceCtorEq,yF,yG,yI,h_bigRight,h_div,h_add,h_sub,h_signed,hr,hr2,hl1,hl2,hy0',hw,hdiv,hlow1,hla,hlb,hs1,hs2,i64L,yJ,bigL,bigE2,pair_eta]
      repeat' (first|refine qqA ?_ ?_|refine qqB ?_ ?_|refine qqC ?_ ?_|refine qqD ?_ ?_|refine qqE ?_ ?_|refine qqF ?_ ?_)<;>intro h<;>simp only[h,go_sem,reduceIte,yA,yB,yC,yD,yE,yH,reduceCtorEq,yF,yG,yI,h_bigRight,h_div,h_add,h_sub,h_signed,hr,hr2,hl1,hl2,hy0',hw,hdiv,hlow1,hla,hlb,hs1,hs2,i64L,yJ,bigL,bigE2,pair_eta]
  ·have hr2:rightR (s2,l2)=false:=by simpa using hr2
   have hm:divR (s,l) (s2,l2)=((0,[]),(0,[]),1):=by unfold divR;rw[hr2,Bool.and_false];rfl
   rw[hm]
   simp only[go_sem,reduceIte,yA,yB,yC,yD,yE,yH,reduceCtorEq,yF,yG,yI,h_bigRight,h_div,h_add,h_sub,h_signed,hr,hr2,hl1,hl2,bigL,bigE2,List.map_nil]
   repeat' (first|refine qqA ?_ ?_|refine qqB ?_ ?_|refine qqC ?_ ?_|refine qqD ?_ ?_|refine qqE ?_ ?_|refine qqF ?_ ?_)<;>intro h<;>simp only[h,go_sem,reduceIte,yA,yB,yC,yD,yE,yH,reduceCtorEq,yF,yG,yI,h_bigRight,h_div,h_add,h_sub,h_signed,hr,hr2,hl1,hl2,bigL,bigE2,List.map_nil]
 ·have hr:rightR (s,l)=false:=by simpa using hr
  have hm:divR (s,l) (s2,l2)=((0,[]),(0,[]),1):=by unfold divR;rw[hr,Bool.false_and];rfl
  rw[hm]
  simp only[go_sem,reduceIte,yA,yB,yC,yD,yE,yH,reduceCtorEq,yF,yG,yI,h_bigRight,h_div,h_add,h_sub,h_signed,hr,hl1,hl2,bigL,bigE2,List.map_nil]
  repeat' (first|refine qqA ?_ ?_|refine qqB ?_ ?_|refine qqC ?_ ?_|refine qqD ?_ ?_|refine qqE ?_ ?_|refine qqF ?_ ?_)<;>intro h<;>simp only[h,go_sem,reduceIte,yA,yB,yC,yD,yE,yH,reduceCtorEq,yF,yG,yI,h_bigRight,h_div,h_add,h_sub,h_signed,hr,hl1,hl2,bigL,bigE2,List.map_nil]
end Go.Mini
namespace Go.Mini
open Go
set_option maxRecDepth 10000
set_option maxHeartbeats 2000000
def i64R (n:Int):Prop:=-9223372036854775808≤n∧n≤9223372036854775807
theorem lim_big {n:Nat} (h:n≤9223372036854775808):n<LIM:=by
 unfold LIM
 refine Nat.lt_of_lt_of_le (m:=1048576^4) ?_ (Nat.pow_le_pow_right (by omega) (by omega))
 omega
theorem lim_i64 {n:Int} (h:i64R n):n.natAbs<LIM:=lim_big (by unfold i64R at h;omega)
theorem wrapu_neg (n:Int) (h1:-18446744073709551616≤n) (h2:n<0):IntKind.u64.wrap n=n+18446744073709551616:=by
 unfold IntKind.wrap
 simp [IntKind.bits,IntKind.signed]
 omega
noncomputable def F_bigOf:List Data→Option PRes:=FF (α:=Int) (fun (n:Int)=>([.int .i64 n]:List Data)) (fun (n:Int)=>onlyIf (i64R n) (.same (.agg (bigL (encB n)))))
theorem F_bigOf_inj:∀ a b:Int,(fun (n:Int)=>([.int .i64 n]:List Data)) a=(fun (n:Int)=>([.int .i64 n]:List Data)) b→a=b:=by
  intro n1 n2 h
  simp only[yM,Data.int.injEq,Data.agg.injEq,Data.sl.injEq,Data.bool.injEq,Data.str.injEq,Data.ptr.injEq,Data.tup.injEq,Prod.mk.injEq,true_and,and_true] at h ⊢
  first | exact h | simpa [Prod.ext_iff,and_assoc] using h | grind
@[go_sem] theorem F_bigOf_eq (n:Int) (hc:i64R n):F_bigOf [.int .i64 n]=some (.same (.agg (bigL (encB n)))):=(FF_eq F_bigOf_inj n).trans (onlyIf_pos hc _)
theorem w_bigOf (T:Tab) (h_signed:T id_big_signed=mkE F_signed) (n:Int) (hc:i64R n) :
  wp T mf_big_Of.body (endS mf_big_Of.res (.same (.agg (bigL (encB n))))) ⟨initTm [.dat (.int .i64 n)],emp⟩:=by
 refine wp_start ?_
 simp only[mf_big_Of]
 have hc':=hc
 unfold i64R at hc'
 obtain⟨hn1,hn2⟩:=hc'
 have hs:∀ s:Int,(n≠0→s=n.sign)→signR s (dg n.natAbs)=encB n:=fun s h=>signR_enc rfl fun hne=>h (by omega)
 have hlen:(dg n.natAbs).length≤60:=dg_len.2 (lim_i64 hc)
 rcases Decidable.em (n<0) with hneg | hpos
 ·have hw:=wrapu_neg n (by omega) hneg
  have hw2:IntKind.u64.wrap (0-(n+18446744073709551616))=(n.natAbs:Int):=by
   rw[wrapu_neg _ (by omega) (by omega)]
   omega
  simp only[go_sem,reduceIte,yA,yB,yC,yD,yE,yH,reduceCtorEq,yF,yG,yI,h_signed,hneg,hw,hw2,decide_true]
  refine wp_loop_keep [2,3] [150002] (fun ((u,g,l):Nat × Nat × List Int) tm mem=>u≤9223372036854775808∧dg n.natAbs=l++dg u∧tm 4 = .dat (.int .u64 u)∧tm 5 = .ref 150021 g 1 0 l.length∧mem 150021=some (g,rowE i64L l)) (fun (u,_)=>u) (n.natAbs,0,[]) (by refine⟨by omega,rfl,?_,rfl,rfl⟩;rfl) ?_
  intro vs ms hvs hms
  simp only[go_sem,reduceIte,yA,yB,yC,yD,yE,yH,reduceCtorEq,yF,yG,yI,h_signed] at hvs hms
  subst hvs hms
  rintro⟨u,g,l⟩ tm mem hk hm ⟨hu,hd,h4,h5,hm21⟩
  simp only[go_sem,reduceIte,yA,yB,yC,yD,yE,yH,reduceCtorEq,yF,yG,yI,h_signed,yM] at hk hm
  obtain⟨h2,h3⟩:=hk
  rcases Nat.eq_zero_or_pos u with h0 | hup
  ·subst h0
   rw[dg_zero,List.append_nil] at hd
   rw[hd] at hs hlen
   have hlen':l.length≤1000000:=by omega
   have hs':=hs (-1) (fun _=>by exact (Int.sign_eq_neg_one_of_neg hneg).symm)
   simp only[go_sem,reduceIte,yA,yB,yC,yD,yE,yH,reduceCtorEq,yF,yG,yI,h_signed,h2,h3,h4,h5,hm,hm21,hs',hlen',bigL,Int.natCast_zero,Int.cast_ofNat_Int,yJ,show ¬ ((0:Int)>0) by omega,decide_false,wpFr2_row i64L_len,List.take_length]
   repeat' (first|refine qqA ?_ ?_|refine qqB ?_ ?_|refine qqC ?_ ?_|refine qqD ?_ ?_|refine qqE ?_ ?_|refine qqF ?_ ?_)<;>intro h<;>simp only[h,go_sem,reduceIte,yA,yB,yC,yD,yE,yH,reduceCtorEq,yF,yG,yI,h_signed,h2,h3,h4,h5,hm,hm21,hs',hlen',bigL,Int.natCast_zero,Int.cast_ofNat_Int,yJ,show ¬ ((0:Int)>0) by omega,decide_false,wpFr2_row i64L_len,List.take_length]
  ·have hul:l.length≤60:=by
    have:=congrArg List.length hd
    rw[List.length_append] at this
    omega
   have hgt:decide ((u:Int)>0)=true:=decide_eq_true (by omega)
   have hap:∀ a:Int,appC 150021 g 1 l.length 8 1 [.dat (.int .i64 a)] (some (g,rowE i64L l))=_:=fun a=>app_row i64L_len i64L_one 150021 g 8 l a rfl (by omega) (by omega)
   have hand:=and_masku u ⟨by omega,by omega⟩
   have hcv:IntKind.i64.wrap ((u:Int) % 1048576)=(u:Int) % 1048576:=wrap64 _ (by omega) (by omega)
   simp only[go_sem,reduceIte,yA,yB,yC,yD,yE,yH,reduceCtorEq,yF,yG,yI,h_signed,h2,h3,h4,h5,hm,hm21,hgt,hap,hand,hcv,fdivm,show ((20:Int)<0)=False from by simp,if_false,yJ,yM]
   repeat' (first|refine qqA ?_ ?_|refine qqB ?_ ?_|refine qqC ?_ ?_|refine qqD ?_ ?_|refine qqE ?_ ?_|refine qqF ?_ ?_)<;>intro h<;>simp only[h,go_sem,reduceIte,yA,yB,yC,yD,yE,yH,reduceCtorEq,yF,yG,yI,h_signed,h2,h3,h4,h5,hm,hm21,hgt,hap,hand,hcv,fdivm,show ((20:Int)<0)=False from by simp,if_false,yJ,yM]
   refine⟨(u / 1048576,g+1,l++[(u:Int) % 1048576]),by dsimp only;omega,by dsimp only;omega,by dsimp only;rw[List.append_assoc,hd,dg_pos hup];rfl,by first | rfl | (dsimp only;rw[wrapu64 _ ⟨by omega,by omega⟩];rfl),by simp,by simp [go_sem]⟩
 ·have hw:IntKind.u64.wrap n=(n.natAbs:Int):=by rw[wrapu64 _ ⟨by omega,by omega⟩];omega
  simp only[go_sem,reduceIte,yA,yB,yC,yD,yE,yH,reduceCtorEq,yF,yG,yI,h_signed,hpos,hw,decide_false]
  refine wp_loop_keep [2,3] [150002] (fun ((u,g,l):Nat × Nat × List Int) tm mem=>u≤9223372036854775808∧dg n.natAbs=l++dg u∧tm 4 = .dat (.int .u64 u)∧tm 5 = .ref 150021 g 1 0 l.length∧mem 150021=some (g,rowE i64L l)) (fun (u,_)=>u) (n.natAbs,0,[]) (by refine⟨by omega,rfl,?_,rfl,rfl⟩;rfl) ?_
  intro vs ms hvs hms
  simp only[go_sem,reduceIte,yA,yB,yC,yD,yE,yH,reduceCtorEq,yF,yG,yI,h_signed] at hvs hms
  subst hvs hms
  rintro⟨u,g,l⟩ tm mem hk hm ⟨hu,hd,h4,h5,hm21⟩
  simp only[go_sem,reduceIte,yA,yB,yC,yD,yE,yH,reduceCtorEq,yF,yG,yI,h_signed,yM] at hk hm
  obtain⟨h2,h3⟩:=hk
  rcases Nat.eq_zero_or_pos u with h0 | hup
  ·subst h0
   rw[dg_zero,List.append_nil] at hd
   rw[hd] at hs hlen
   have hlen':l.length≤1000000:=by omega
   have hs':=hs 1 (fun _=>by exact (Int.sign_eq_one_of_pos (by omega)).symm)
   simp only[go_sem,reduceIte,yA,yB,yC,yD,yE,yH,reduceCtorEq,yF,yG,yI,h_signed,h2,h3,h4,h5,hm,hm21,hs',hlen',bigL,Int.natCast_zero,Int.cast_ofNat_Int,yJ,show ¬ ((0:Int)>0) by omega,decide_false,wpFr2_row i64L_len,List.take_length]
   repeat' (first|refine qqA ?_ ?_|refine qqB ?_ ?_|refine qqC ?_ ?_|refine qqD ?_ ?_|refine qqE ?_ ?_|refine qqF ?_ ?_)<;>intro h<;>simp only[h,go_sem,reduceIte,yA,yB,yC,yD,yE,yH,reduceCtorEq,yF,yG,yI,h_signed,h2,h3,h4,h5,hm,hm21,hs',hlen',bigL,Int.natCast_zero,Int.cast_ofNat_Int,yJ,show ¬ ((0:Int)>0) by omega,decide_false,wpFr2_row i64L_len,List.take_length]
  ·have hul:l.length≤60:=by
    have:=congrArg List.length hd
    rw[List.length_append] at this
    omega
   have hgt:decide ((u:Int)>0)=true:=decide_eq_true (by omega)
   have hap:∀ a:Int,appC 150021 g 1 l.length 8 1 [.dat (.int .i64 a)] (some (g,rowE i64L l))=_:=fun a=>app_row i64L_len i64L_one 150021 g 8 l a rfl (by omega) (by omega)
   have hand:=and_masku u ⟨by omega,by omega⟩
   have hcv:IntKind.i64.wrap ((u:Int) % 1048576)=(u:Int) % 1048576:=wrap64 _ (by omega) (by omega)
   simp only[go_sem,reduceIte,yA,yB,yC,yD,yE,yH,reduceCtorEq,yF,yG,yI,h_signed,h2,h3,h4,h5,hm,hm21,hgt,hap,hand,hcv,fdivm,show ((20:Int)<0)=False from by simp,if_false,yJ,yM]
   repeat' (first|refine qqA ?_ ?_|refine qqB ?_ ?_|refine qqC ?_ ?_|refine qqD ?_ ?_|refine qqE ?_ ?_|refine qqF ?_ ?_)<;>intro h<;>simp only[h,go_sem,reduceIte,yA,yB,yC,yD,yE,yH,reduceCtorEq,yF,yG,yI,h_signed,h2,h3,h4,h5,hm,hm21,hgt,hap,hand,hcv,fdivm,show ((20:Int)<0)=False from by simp,if_false,yJ,yM]
   refine⟨(u / 1048576,g+1,l++[(u:Int) % 1048576]),by dsimp only;omega,by dsimp only;omega,by dsimp only;rw[List.append_assoc,hd,dg_pos hup];rfl,by first | rfl | (dsimp only;rw[wrapu64 _ ⟨by omega,by omega⟩];rfl),by simp,by simp [go_sem]⟩
end Go.Mini
namespace Go.Mini
open Go
set_option maxRecDepth 10000
set_option maxHeartbeats 2000000
theorem bits_or_comm (k:IntKind) (a b:Int):bits .or k a b=bits .or k b a:=by
 simp only[bits,BitVec.or_comm]
theorem or_shl (u d:Int) (i:Nat) (hi:(2:Int)^i≤1152921504606846976) (hu:0≤u∧u<2^i) (hd:0≤d) (h:d*2^i<18446744073709551616):bits .or .u64 u (d*2^i)=u+d*2^i:=by
 rw[bits_or_comm,Int.add_comm]
 have h0:0≤d*2^i:=Int.mul_nonneg hd (by exact Int.le_of_lt (Int.pow_pos (by omega)))
 refine bits_join .u64 64 (by decide) (fun n h1 h2=>wrapu64 n ⟨h1,by omega⟩) i _ _ h0 (Int.mul_emod_left _ _) (by omega) hu.1 hu.2 (by omega)
instance (n:Int):Decidable (i64R n):=by unfold i64R;exact inferInstance
def intR (a:Raw):Int × Bool:=if rightR a=true∧i64R (valB a) then (valB a,true) else (0,false)
noncomputable def F_bigInt:List Data→Option PRes:=FF (α:=Int × (List Int)) (fun (s,l)=>([.agg [.int .i64 s,.sl (l.map i64L)]]:List Data)) (fun (s,l)=>onlyIf (l.length≤1000000) (.same (.tup [.int .i64 (intR (s,l)).1,.bool (intR (s,l)).2])))
theorem F_bigInt_inj:∀ a b:Int × (List Int),(fun (s,l)=>([.agg [.int .i64 s,.sl (l.map i64L)]]:List Data)) a=(fun (s,l)=>([.agg [.int .i64 s,.sl (l.map i64L)]]:List Data)) b→a=b:=by
  rintro⟨s1,l1⟩ ⟨s2,l2⟩ h
  simp only[yM,Data.agg.injEq,Data.int.injEq,Data.sl.injEq] at h;exact Prod.ext h.1.1.2 (map_inj i64L_inj _ _ h.1.2.1)
@[go_sem] theorem F_bigInt_eq (s:Int) (l:List Int) (hc:l.length≤1000000):F_bigInt [.agg [.int .i64 s,.sl (l.map i64L)]]=some (.same (.tup [.int .i64 (intR (s,l)).1,.bool (intR (s,l)).2])):=(FF_eq F_bigInt_inj (s,l)).trans (onlyIf_pos hc _)
theorem w_bigInt (T:Tab) (h_bigRight:T id_big_Right=mkE F_bigRight) (s:Int) (l:List Int) (hc:l.length≤1000000) :
  wp T mf_big_Int.body (endS mf_big_Int.res (.same (.tup [.int .i64 (intR (s,l)).1,.bool (intR (s,l)).2]))) ⟨initTm [.dat (.agg [.int .i64 s,.sl (l.map i64L)])],emp⟩:=by
 refine wp_start ?_
 simp only[mf_big_Int]
 by_cases hr:rightR (s,l)=true
 ·obtain⟨z,hz,e⟩:=(rightR_iff _).1 hr
  cases e
  have hi:intR (z.sign,dg z.natAbs)=if i64R z then (z,true) else (0,false):=by
   unfold intR
   rw[hr,show valB (z.sign,dg z.natAbs)=z from valB_enc z]
   simp
  rw[hi]
  clear hi
  have hs:=sign_tri z
  by_cases h4:(dg z.natAbs).length≤4
  ·have h4':decide (((dg z.natAbs).length:Int)>4)=false:=decide_eq_false (by omega)
   have hvl:=vl_dg z.natAbs
   have hD:=isD_dg z.natAbs
   generalize dg z.natAbs=l at *
   simp only[go_sem,reduceIte,yA,yB,yC,yD,yE,yH,reduceCtorEq,yF,yG,yI,h_bigRight,hr,hc,h4',yJ,i64L]
   refine wp_loop_keep [1,17,18] [159001] (fun ((i,u):Nat × Int) tm mem=>i≤l.length∧u=vl (l.take i)∧u<18446744073709551616∧tm 4 = .dat (.int .u64 u)∧tm 19 = .dat (.int .i64 i)) (fun (i,_)=>l.length-i) (0,0) (by refine⟨by omega,rfl,by omega,rfl,rfl⟩) ?_
   intro vs ms hvs hms
   simp only[go_sem,reduceIte,yA,yB,yC,yD,yE,yH,reduceCtorEq,yF,yG,yI,h_bigRight] at hvs hms
   subst hvs hms
   rintro⟨i,u⟩ tm mem hk hm ⟨hi,hu,hu64,ht4,ht19⟩
   simp only[go_sem,reduceIte,yA,yB,yC,yD,yE,yH,reduceCtorEq,yF,yG,yI,h_bigRight,yM] at hk hm
   obtain⟨h1,h17,h18⟩:=hk
   have hDt:isD (l.take i):=fun d hd=>hD d (List.mem_of_mem_take hd)
   have hu0:0≤u:=by rw[hu];exact vl_nonneg hDt
   rcases Decidable.em (i<l.length) with hlt | hge
   ·have hx:=yL hlt
    have hd:=hD l[i] (List.getElem_mem hlt)
    have hstep:=vl_take_succ l i hlt
    have hub:=vl_lt hDt
    rw[List.length_take,Nat.min_eq_left (Nat.le_of_lt hlt),←hu] at hub
    rw[←hu] at hstep
    generalize l[i]=d at *
    have hltd:decide ((i:Int)<(l.length:Int))=true:=decide_eq_true (by omega)
    have hwd:IntKind.u64.wrap d=d:=wrapu64 d ⟨hd.1,by omega⟩
    have hw20:IntKind.i64.wrap (20*(i:Int))=((20*i:Nat):Int):=by rw[wrap64 _ (by omega) (by omega)];omega
    have hmin:min (20*i) 64=20*i:=by omega
    have hn0:(((20*i:Nat):Int)<0)=False:=eq_false (by omega)
    have hpow:(1048576:Int)^i=2^(20*i):=by rw[Int.pow_mul];rfl
    rw[hpow] at hub hstep
    have hpl:(2:Int)^(20*i)≤1152921504606846976:=by
     obtain rfl | rfl | rfl | rfl:i=0∨i=1∨i=2∨i=3:=by omega
     all_goals decide
    by_cases hbig:i=3∧d>8
    ·obtain⟨rfl,hd8⟩:=hbig
     have hd8':decide (d>8)=true:=decide_eq_true hd8
     have h33:(((3:Nat):Int)==3)=true:=rfl
     have hni:¬ i64R z:=by
      have htd:=vl_take_drop l 4
      rw[hvl] at htd
      have:0≤vl (l.drop 4):=vl_nonneg fun d hd=>hD d (List.mem_of_mem_drop hd)
      have h5:=Int.mul_nonneg (show (0:Int)≤1048576^(min 4 l.length) from Int.le_of_lt (Int.pow_pos (by omega))) this
      unfold i64R
      simp only[yD,yB,Int.reducePow] at hstep
      rw[hstep] at htd
      omega
     rw[if_neg hni]
     simp only[go_sem,reduceIte,yA,yB,yC,yD,yE,yH,reduceCtorEq,yF,yG,yI,h_bigRight,h1,h17,h18,ht4,ht19,hm,hx,hd.1,hd.2,hltd,hwd,hd8',h33,yJ,yK,yM,i64L]
     repeat' (first|refine qqA ?_ ?_|refine qqB ?_ ?_|refine qqC ?_ ?_|refine qqD ?_ ?_|refine qqE ?_ ?_|refine qqF ?_ ?_)<;>intro h<;>simp only[h,go_sem,reduceIte,yA,yB,yC,yD,yE,yH,reduceCtorEq,yF,yG,yI,h_bigRight,h1,h17,h18,ht4,ht19,hm,hx,hd.1,hd.2,hltd,hwd,hd8',h33,yJ,yK,yM,i64L]
    ·have hdb:d*2^(20*i)<18446744073709551616:=by
      obtain rfl | rfl | rfl | rfl:i=0∨i=1∨i=2∨i=3:=by omega
      all_goals simp
      all_goals omega
     have hor:=or_shl u d (20*i) hpl ⟨hu0,hub⟩ hd.1 hdb
     have hdm:0≤d*2^(20*i):=Int.mul_nonneg hd.1 (Int.le_of_lt (Int.pow_pos (by omega)))
     have hwm:IntKind.u64.wrap (d*2^(20*i))=d*2^(20*i):=wrapu64 _ ⟨hdm,hdb⟩
     have hsum:u+d*2^(20*i)<18446744073709551616:=by
      clear hor hwm hdm hw20 hn0 hpow hpl hstep
      obtain rfl | rfl | rfl | rfl:i=0∨i=1∨i=2∨i=3:=by omega
      all_goals simp only[yD,Int.reducePow] at hub hdb ⊢
      all_goals omega
     by_cases h3:((i:Int)==3)=true
     ·have hd8:decide (d>8)=false:=decide_eq_false fun h=>hbig ⟨by simp at h3;omega,h⟩
      simp only[go_sem,reduceIte,yA,yB,yC,yD,yE,yH,reduceCtorEq,yF,yG,yI,h_bigRight,h1,h17,h18,ht4,ht19,hm,hx,hd.1,hd.2,hltd,hwd,h3,hd8,hw20,hn0,if_false,Int.toNat_natCast,hmin,hwm,hor,yJ,yK,yM,i64L]
      repeat' (first|refine qqA ?_ ?_|refine qqB ?_ ?_|refine qqC ?_ ?_|refine qqD ?_ ?_|refine qqE ?_ ?_|refine qqF ?_ ?_)<;>intro h<;>simp only[h,go_sem,reduceIte,yA,yB,yC,yD,yE,yH,reduceCtorEq,yF,yG,yI,h_bigRight,h1,h17,h18,ht4,ht19,hm,hx,hd.1,hd.2,hltd,hwd,h3,hd8,hw20,hn0,if_false,Int.toNat_natCast,hmin,hwm,hor,yJ,yK,yM,i64L]
      exact⟨(i+1,u+d*2^(20*i)),by dsimp only;omega,by dsimp only;omega,by dsimp only;rw[hstep,Int.mul_comm],hsum,rfl,by rw[wrap64 _ (by omega) (by omega)];rfl⟩
     ·have h3:((i:Int)==3)=false:=by simpa using h3
      simp only[go_sem,reduceIte,yA,yB,yC,yD,yE,yH,reduceCtorEq,yF,yG,yI,h_bigRight,h1,h17,h18,ht4,ht19,hm,hx,hd.1,hd.2,hltd,hwd,h3,hw20,hn0,if_false,Int.toNat_natCast,hmin,hwm,hor,yJ,yK,yM,i64L]
      repeat' (first|refine qqA ?_ ?_|refine qqB ?_ ?_|refine qqC ?_ ?_|refine qqD ?_ ?_|refine qqE ?_ ?_|refine qqF ?_ ?_)<;>intro h<;>simp only[h,go_sem,reduceIte,yA,yB,yC,yD,yE,yH,reduceCtorEq,yF,yG,yI,h_bigRight,h1,h17,h18,ht4,ht19,hm,hx,hd.1,hd.2,hltd,hwd,h3,hw20,hn0,if_false,Int.toNat_natCast,hmin,hwm,hor,yJ,yK,yM,i64L]
      exact⟨(i+1,u+d*2^(20*i)),by dsimp only;omega,by dsimp only;omega,by dsimp only;rw[hstep,Int.mul_comm],hsum,rfl,by rw[wrap64 _ (by omega) (by omega)];rfl⟩
   ·have hltd:decide ((i:Int)<(l.length:Int))=false:=decide_eq_false (by omega)
    have hil:i=l.length:=by omega
    rw[hil,List.take_length,hvl] at hu
    rcases hs with ⟨hs,hz0⟩ | ⟨hs,hz0⟩ | ⟨hs,hz0⟩
    ·by_cases hr64:u<9223372036854775808
     ·rw[if_pos (by unfold i64R;omega)]
      have hw:IntKind.i64.wrap u=z:=by rw[wrap64 u (by omega) (by omega)];omega
      simp only[go_sem,reduceIte,yA,yB,yC,yD,yE,yH,reduceCtorEq,yF,yG,yI,h_bigRight,h1,h17,h18,ht4,ht19,hm,hltd,hs,hr64,show decide ((1:Int)<0)=false from rfl,show decide ((1:Int)≥0)=true from rfl,show decide ((-1:Int)<0)=true from rfl,show decide ((-1:Int)≥0)=false from rfl,hw,decide_true,decide_false,yJ]
      repeat' (first|refine qqA ?_ ?_|refine qqB ?_ ?_|refine qqC ?_ ?_|refine qqD ?_ ?_|refine qqE ?_ ?_|refine qqF ?_ ?_)<;>intro h<;>simp only[h,go_sem,reduceIte,yA,yB,yC,yD,yE,yH,reduceCtorEq,yF,yG,yI,h_bigRight,h1,h17,h18,ht4,ht19,hm,hltd,hs,hr64,show decide ((1:Int)<0)=false from rfl,show decide ((1:Int)≥0)=true from rfl,show decide ((-1:Int)<0)=true from rfl,show decide ((-1:Int)≥0)=false from rfl,hw,decide_true,decide_false,yJ]
     ·rw[if_neg (by unfold i64R;omega)]
      simp only[go_sem,reduceIte,yA,yB,yC,yD,yE,yH,reduceCtorEq,yF,yG,yI,h_bigRight,h1,h17,h18,ht4,ht19,hm,hltd,hs,hr64,show decide ((1:Int)<0)=false from rfl,show decide ((1:Int)≥0)=true from rfl,show decide ((-1:Int)<0)=true from rfl,show decide ((-1:Int)≥0)=false from rfl,decide_true,decide_false,yJ]
      repeat' (first|refine qqA ?_ ?_|refine qqB ?_ ?_|refine qqC ?_ ?_|refine qqD ?_ ?_|refine qqE ?_ ?_|refine qqF ?_ ?_)<;>intro h<;>simp only[h,go_sem,reduceIte,yA,yB,yC,yD,yE,yH,reduceCtorEq,yF,yG,yI,h_bigRight,h1,h17,h18,ht4,ht19,hm,hltd,hs,hr64,show decide ((1:Int)<0)=false from rfl,show decide ((1:Int)≥0)=true from rfl,show decide ((-1:Int)<0)=true from rfl,show decide ((-1:Int)≥0)=false from rfl,decide_true,decide_false,yJ]
    ·rw[if_pos (by unfold i64R;omega)]
     have hu0':u=0:=by omega
     subst hz0
     subst hu0'
     simp only[go_sem,reduceIte,yA,yB,yC,yD,yE,yH,reduceCtorEq,yF,yG,yI,h_bigRight,h1,h17,h18,ht4,ht19,hm,hltd,hs,show decide ((0:Int)<0)=false from rfl,show decide ((0:Int)≥0)=true from rfl,show decide ((0:Int)<9223372036854775808)=true from rfl,show IntKind.i64.wrap 0=0 from rfl,show (0:Int).sign=0 from rfl,decide_true,decide_false,yJ]
     repeat' (first|refine qqA ?_ ?_|refine qqB ?_ ?_|refine qqC ?_ ?_|refine qqD ?_ ?_|refine qqE ?_ ?_|refine qqF ?_ ?_)<;>intro h<;>simp only[h,go_sem,reduceIte,yA,yB,yC,yD,yE,yH,reduceCtorEq,yF,yG,yI,h_bigRight,h1,h17,h18,ht4,ht19,hm,hltd,hs,show decide ((0:Int)<0)=false from rfl,show decide ((0:Int)≥0)=true from rfl,show decide ((0:Int)<9223372036854775808)=true from rfl,show IntKind.i64.wrap 0=0 from rfl,show (0:Int).sign=0 from rfl,decide_true,decide_false,yJ]
    ·by_cases hr64:u≤9223372036854775808
     ·rw[if_pos (by unfold i64R;omega)]
      have hw:=wrapu_neg (0-u) (by omega) (by omega)
      have hw2:IntKind.i64.wrap (0-u+18446744073709551616)=z:=by
       simp [IntKind.wrap,IntKind.bits,IntKind.signed];omega
      simp only[go_sem,reduceIte,yA,yB,yC,yD,yE,yH,reduceCtorEq,yF,yG,yI,h_bigRight,h1,h17,h18,ht4,ht19,hm,hltd,hs,hr64,show decide ((1:Int)<0)=false from rfl,show decide ((1:Int)≥0)=true from rfl,show decide ((-1:Int)<0)=true from rfl,show decide ((-1:Int)≥0)=false from rfl,hw,hw2,decide_true,decide_false,yJ]
      repeat' (first|refine qqA ?_ ?_|refine qqB ?_ ?_|refine qqC ?_ ?_|refine qqD ?_ ?_|refine qqE ?_ ?_|refine qqF ?_ ?_)<;>intro h<;>simp only[h,go_sem,reduceIte,yA,yB,yC,yD,yE,yH,reduceCtorEq,yF,yG,yI,h_bigRight,h1,h17,h18,ht4,ht19,hm,hltd,hs,hr64,show decide ((1:Int)<0)=false from rfl,show decide ((1:Int)≥0)=true from rfl,show decide ((-1:Int)<0)=true from rfl,show decide ((-1:Int)≥0)=false from rfl,hw,hw2,decide_true,decide_false,yJ]
     ·rw[if_neg (by unfold i64R;omega)]
      simp only[go_sem,reduceIte,yA,yB,yC,yD,yE,yH,reduceCtorEq,yF,yG,yI,h_bigRight,h1,h17,h18,ht4,ht19,hm,hltd,hs,hr64,show decide ((1:Int)<0)=false from rfl,show decide ((1:Int)≥0)=true from rfl,show decide ((-1:Int)<0)=true from rfl,show decide ((-1:Int)≥0)=false from rfl,decide_true,decide_false,yJ]
      repeat' (first|refine qqA ?_ ?_|refine qqB ?_ ?_|refine qqC ?_ ?_|refine qqD ?_ ?_|refine qqE ?_ ?_|refine qqF ?_ ?_)<;>intro h<;>simp only[h,go_sem,reduceIte,yA,yB,yC,yD,yE,yH,reduceCtorEq,yF,yG,yI,h_bigRight,h1,h17,h18,ht4,ht19,hm,hltd,hs,hr64,show decide ((1:Int)<0)=false from rfl,show decide ((1:Int)≥0)=true from rfl,show decide ((-1:Int)<0)=true from rfl,show decide ((-1:Int)≥0)=false from rfl,decide_true,decide_false,yJ]
  ·have h4':decide (((dg z.natAbs).length:Int)>4)=true:=decide_eq_true (by omega)
   have hn:¬ i64R z:=by
    intro h
    unfold i64R at h
    refine h4 (dg_len.2 ?_)
    omega
   rw[if_neg hn]
   simp only[go_sem,reduceIte,yA,yB,yC,yD,yE,yH,reduceCtorEq,yF,yG,yI,h_bigRight,hr,hc,h4',yJ]
   repeat' (first|refine qqA ?_ ?_|refine qqB ?_ ?_|refine qqC ?_ ?_|refine qqD ?_ ?_|refine qqE ?_ ?_|refine qqF ?_ ?_)<;>intro h<;>simp only[h,go_sem,reduceIte,yA,yB,yC,yD,yE,yH,reduceCtorEq,yF,yG,yI,h_bigRight,hr,hc,h4',yJ]
 ·have hr:rightR (s,l)=false:=by simpa using hr
  have hi:intR (s,l)=(0,false):=by unfold intR;rw[if_neg];rw[hr];simp
  rw[hi]
  simp only[go_sem,reduceIte,yA,yB,yC,yD,yE,yH,reduceCtorEq,yF,yG,yI,h_bigRight,hr,hc]
  repeat' (first|refine qqA ?_ ?_|refine qqB ?_ ?_|refine qqC ?_ ?_|refine qqD ?_ ?_|refine qqE ?_ ?_|refine qqF ?_ ?_)<;>intro h<;>simp only[h,go_sem,reduceIte,yA,yB,yC,yD,yE,yH,reduceCtorEq,yF,yG,yI,h_bigRight,hr,hc]
end Go.Mini
namespace Go.Mini
open Go
def mf_frac_Right:MFunc :=
 { n:=35,np:=1,res:=[.t 2],body :=
 (.seq (.ops [
 ⟨some 1,none,.box 116001 (.t 0)⟩,⟨some 2,none,.mv (.c (.dat (.bool false)))⟩])
 (.seq (.seq (.ops [
 ⟨some 5,none,.fad 0 (.t 1)⟩,⟨some 6,none,.load 2 true (.t 5)⟩,⟨some 7,none,.call id_big_Right [(.t 6)]⟩,⟨some 8,none,.un .not (.t 7)⟩,⟨some 9,none,.mv (.t 8)⟩,⟨some 10,some (9,false),.fad 2 (.t 1)⟩,⟨some 11,some (9,false),.load 2 true (.t 10)⟩,⟨some 12,some (9,false),.call id_big_Right [(.t 11)]⟩,⟨some 13,some (9,false),.un .not (.t 12)⟩,⟨some 14,none,.pick (.t 9) (.c (.dat (.bool true))) (.t 13)⟩,⟨some 15,none,.mv (.t 14)⟩,⟨some 16,some (15,false),.fad 2 (.t 1)⟩,⟨some 17,some (15,false),.fad 0 (.t 16)⟩,⟨some 18,some (15,false),.load 1 false (.t 17)⟩,⟨some 19,some (15,false),.bin .neq (.t 18) (.c (.dat (.int .i64 1)))⟩,⟨some 20,none,.pick (.t 15) (.c (.dat (.bool true))) (.t 19)⟩])
 (.cond (.t 20)
 (.seq (.ops [
 ⟨some 2,none,.mv (.c (.dat (.bool false)))⟩])
 .ret)
 .skip))
 (.seq (.ops [
 ⟨some 22,none,.fad 0 (.t 1)⟩,⟨some 23,none,.load 2 true (.t 22)⟩,⟨some 24,none,.fad 2 (.t 1)⟩,⟨some 25,none,.load 2 true (.t 24)⟩,⟨some 26,none,.call id_big_Gcd [(.t 23),(.t 25)]⟩,⟨some 21,none,.mv (.t 26)⟩,⟨some 27,none,.ext 0 (.t 21)⟩,⟨some 28,none,.ext 1 (.t 21)⟩,⟨some 3,none,.alloc 116003 [(.dat (.int .i64 0)),.nil]⟩,⟨none,none,.store 2 (.t 3) (.t 27)⟩,⟨some 4,none,.mv (.t 28)⟩])
 (.seq (.ops [
 ⟨some 29,none,.mv (.t 4)⟩,⟨some 30,none,.bin .eql (.t 29) (.c (.dat (.int .i64 0)))⟩,⟨some 31,none,.mv (.t 30)⟩,⟨some 32,some (31,true),.load 2 true (.t 3)⟩,⟨some 33,some (31,true),.call id_frac_one [(.t 32)]⟩,⟨some 34,none,.pick (.t 31) (.t 33) (.c (.dat (.bool false)))⟩,⟨some 2,none,.mv (.t 34)⟩])
 .ret)))) }
def mf_frac_Add:MFunc :=
 { n:=46,np:=2,res:=[.cell 4 4 true,.t 5],body :=
 (.seq (.ops [
 ⟨some 2,none,.box 119002 (.t 0)⟩,⟨some 3,none,.box 119003 (.t 1)⟩,⟨some 4,none,.alloc 119004 [(.dat (.int .i64 0)),.nil,(.dat (.int .i64 0)),.nil]⟩,⟨some 5,none,.mv (.c (.dat (.int .i64 0)))⟩])
 (.seq (.seq (.ops [
 ⟨some 10,none,.load 4 true (.t 2)⟩,⟨some 11,none,.call id_frac_Right [(.t 10)]⟩,⟨some 12,none,.un .not (.t 11)⟩,⟨some 13,none,.mv (.t 12)⟩,⟨some 14,some (13,false),.load 4 true (.t 3)⟩,⟨some 15,some (13,false),.call id_frac_Right [(.t 14)]⟩,⟨some 16,some (13,false),.un .not (.t 15)⟩,⟨some 17,none,.pick (.t 13) (.c (.dat (.bool true))) (.t 16)⟩])
 (.cond (.t 17)
 (.seq (.ops [
 ⟨some 18,none,.build [(.dat (.int .i64 0)),.nil,(.dat (.int .i64 0)),.nil] []⟩,⟨none,none,.store 4 (.t 4) (.t 18)⟩,⟨some 5,none,.mv (.c (.dat (.int .i64 1)))⟩])
 .ret)
 .skip))
 (.seq (.ops [
 ⟨some 20,none,.fad 0 (.t 2)⟩,⟨some 21,none,.load 2 true (.t 20)⟩,⟨some 22,none,.fad 2 (.t 3)⟩,⟨some 23,none,.load 2 true (.t 22)⟩,⟨some 24,none,.fad 0 (.t 3)⟩,⟨some 25,none,.load 2 true (.t 24)⟩,⟨some 26,none,.fad 2 (.t 2)⟩,⟨some 27,none,.load 2 true (.t 26)⟩,⟨some 28,none,.call id_frac_sum [(.t 21),(.t 23),(.t 25),(.t 27)]⟩,⟨some 19,none,.mv (.t 28)⟩,⟨some 29,none,.ext 0 (.t 19)⟩,⟨some 30,none,.ext 1 (.t 19)⟩,⟨some 6,none,.alloc 119006 [(.dat (.int .i64 0)),.nil]⟩,⟨none,none,.store 2 (.t 6) (.t 29)⟩,⟨some 7,none,.mv (.t 30)⟩])
 (.seq (.ops [
 ⟨some 32,none,.fad 2 (.t 2)⟩,⟨some 33,none,.load 2 true (.t 32)⟩,⟨some 34,none,.fad 2 (.t 3)⟩,⟨some 35,none,.load 2 true (.t 34)⟩,⟨some 36,none,.call id_big_Mul [(.t 33),(.t 35)]⟩,⟨some 31,none,.mv (.t 36)⟩,⟨some 37,none,.ext 0 (.t 31)⟩,⟨some 38,none,.ext 1 (.t 31)⟩,⟨some 8,none,.alloc 119008 [(.dat (.int .i64 0)),.nil]⟩,⟨none,none,.store 2 (.t 8) (.t 37)⟩,⟨some 9,none,.mv (.t 38)⟩])
 (.seq (.ops [
 ⟨some 39,none,.load 2 true (.t 6)⟩,⟨some 40,none,.mv (.t 7)⟩,⟨some 41,none,.load 2 true (.t 8)⟩,⟨some 42,none,.mv (.t 9)⟩,⟨some 43,none,.call id_frac_quotient [(.t 39),(.t 40),(.t 41),(.t 42)]⟩,⟨some 44,none,.ext 0 (.t 43)⟩,⟨some 45,none,.ext 1 (.t 43)⟩,⟨none,none,.store 4 (.t 4) (.t 44)⟩,⟨some 5,none,.mv (.t 45)⟩])
 .ret))))) }
def mf_frac_Of:MFunc :=
 { n:=13,np:=2,res:=[.cell 4 4 true,.t 5],body :=
 (.seq (.ops [
 ⟨some 4,none,.alloc 130004 [(.dat (.int .i64 0)),.nil,(.dat (.int .i64 0)),.nil]⟩,⟨some 5,none,.mv (.c (.dat (.int .i64 0)))⟩])
 (.seq (.ops [
 ⟨some 6,none,.mv (.t 0)⟩,⟨some 7,none,.call id_big_Of [(.t 6)]⟩,⟨some 8,none,.mv (.t 1)⟩,⟨some 9,none,.call id_big_Of [(.t 8)]⟩,⟨some 10,none,.call id_frac_New [(.t 7),(.t 9)]⟩,⟨some 11,none,.ext 0 (.t 10)⟩,⟨some 12,none,.ext 1 (.t 10)⟩,⟨none,none,.store 4 (.t 4) (.t 11)⟩,⟨some 5,none,.mv (.t 12)⟩])
 .ret)) }
def mf_frac_Sub:MFunc :=
 { n:=25,np:=2,res:=[.cell 4 4 true,.t 5],body :=
 (.seq (.ops [
 ⟨some 2,none,.box 132002 (.t 0)⟩,⟨some 3,none,.box 132003 (.t 1)⟩,⟨some 4,none,.alloc 132004 [(.dat (.int .i64 0)),.nil,(.dat (.int .i64 0)),.nil]⟩,⟨some 5,none,.mv (.c (.dat (.int .i64 0)))⟩])
 (.seq (.seq (.ops [
 ⟨some 6,none,.load 4 true (.t 2)⟩,⟨some 7,none,.call id_frac_Right [(.t 6)]⟩,⟨some 8,none,.un .not (.t 7)⟩,⟨some 9,none,.mv (.t 8)⟩,⟨some 10,some (9,false),.load 4 true (.t 3)⟩,⟨some 11,some (9,false),.call id_frac_Right [(.t 10)]⟩,⟨some 12,some (9,false),.un .not (.t 11)⟩,⟨some 13,none,.pick (.t 9) (.c (.dat (.bool true))) (.t 12)⟩])
 (.cond (.t 13)
 (.seq (.ops [
 ⟨some 14,none,.build [(.dat (.int .i64 0)),.nil,(.dat (.int .i64 0)),.nil] []⟩,⟨none,none,.store 4 (.t 4) (.t 14)⟩,⟨some 5,none,.mv (.c (.dat (.int .i64 1)))⟩])
 .ret)
 .skip))
 (.seq (.opsD [
 ⟨some 15,none,.load 4 true (.t 2)⟩,⟨some 16,none,.fad 0 (.t 3)⟩,⟨some 17,none,.load 2 true (.t 16)⟩,⟨some 18,none,.call id_big_Neg [(.t 17)]⟩,⟨some 19,none,.fad 2 (.t 3)⟩,⟨some 20,none,.load 2 true (.t 19)⟩,⟨some 21,none,.build [(.dat (.int .i64 0)),.nil,(.dat (.int .i64 0)),.nil] [(0,2,(.t 18)),(2,2,(.t 20))]⟩,⟨some 22,none,.call id_frac_Add [(.t 15),(.t 21)]⟩,⟨some 23,none,.ext 0 (.t 22)⟩,⟨some 24,none,.ext 1 (.t 22)⟩,⟨none,none,.store 4 (.t 4) (.t 23)⟩,⟨some 5,none,.mv (.t 24)⟩] [[],[],[],[],[],[],[],[],[],[],[],[]])
 .ret))) }
def mf_frac_Mul:MFunc :=
 { n:=42,np:=2,res:=[.cell 4 4 true,.t 5],body :=
 (.seq (.ops [
 ⟨some 2,none,.box 134002 (.t 0)⟩,⟨some 3,none,.box 134003 (.t 1)⟩,⟨some 4,none,.alloc 134004 [(.dat (.int .i64 0)),.nil,(.dat (.int .i64 0)),.nil]⟩,⟨some 5,none,.mv (.c (.dat (.int .i64 0)))⟩])
 (.seq (.seq (.ops [
 ⟨some 10,none,.load 4 true (.t 2)⟩,⟨some 11,none,.call id_frac_Right [(.t 10)]⟩,⟨some 12,none,.un .not (.t 11)⟩,⟨some 13,none,.mv (.t 12)⟩,⟨some 14,some (13,false),.load 4 true (.t 3)⟩,⟨some 15,some (13,false),.call id_frac_Right [(.t 14)]⟩,⟨some 16,some (13,false),.un .not (.t 15)⟩,⟨some 17,none,.pick (.t 13) (.c (.dat (.bool true))) (.t 16)⟩])
 (.cond (.t 17)
 (.seq (.ops [
 ⟨some 18,none,.build [(.dat (.int .i64 0)),.nil,(.dat (.int .i64 0)),.nil] []⟩,⟨none,none,.store 4 (.t 4) (.t 18)⟩,⟨some 5,none,.mv (.c (.dat (.int .i64 1)))⟩])
 .ret)
 .skip))
 (.seq (.ops [
 ⟨some 20,none,.fad 0 (.t 2)⟩,⟨some 21,none,.load 2 true (.t 20)⟩,⟨some 22,none,.fad 0 (.t 3)⟩,⟨some 23,none,.load 2 true (.t 22)⟩,⟨some 24,none,.call id_big_Mul [(.t 21),(.t 23)]⟩,⟨some 19,none,.mv (.t 24)⟩,⟨some 25,none,.ext 0 (.t 19)⟩,⟨some 26,none,.ext 1 (.t 19)⟩,⟨some 6,none,.alloc 134006 [(.dat (.int .i64 0)),.nil]⟩,⟨none,none,.store 2 (.t 6) (.t 25)⟩,⟨some 7,none,.mv (.t 26)⟩])
 (.seq (.ops [
 ⟨some 28,none,.fad 2 (.t 2)⟩,⟨some 29,none,.load 2 true (.t 28)⟩,⟨some 30,none,.fad 2 (.t 3)⟩,⟨some 31,none,.load 2 true (.t 30)⟩,⟨some 32,none,.call id_big_Mul [(.t 29),(.t 31)]⟩,⟨some 27,none,.mv (.t 32)⟩,⟨some 33,none,.ext 0 (.t 27)⟩,⟨some 34,none,.ext 1 (.t 27)⟩,⟨some 8,none,.alloc 134008 [(.dat (.int .i64 0)),.nil]⟩,⟨none,none,.store 2 (.t 8) (.t 33)⟩,⟨some 9,none,.mv (.t 34)⟩])
 (.seq (.ops [
 ⟨some 35,none,.load 2 true (.t 6)⟩,⟨some 36,none,.mv (.t 7)⟩,⟨some 37,none,.load 2 true (.t 8)⟩,⟨some 38,none,.mv (.t 9)⟩,⟨some 39,none,.call id_frac_quotient [(.t 35),(.t 36),(.t 37),(.t 38)]⟩,⟨some 40,none,.ext 0 (.t 39)⟩,⟨some 41,none,.ext 1 (.t 39)⟩,⟨none,none,.store 4 (.t 4) (.t 40)⟩,⟨some 5,none,.mv (.t 41)⟩])
 .ret))))) }
def mf_frac_Compare:MFunc :=
 { n:=78,np:=2,res:=[.t 4],body :=
 (.seq (.ops [
 ⟨some 2,none,.box 135002 (.t 0)⟩,⟨some 3,none,.box 135003 (.t 1)⟩,⟨some 4,none,.mv (.c (.dat (.int .i64 0)))⟩])
 (.seq (.seq (.ops [
 ⟨some 17,none,.load 4 true (.t 2)⟩,⟨some 18,none,.call id_frac_Right [(.t 17)]⟩,⟨some 19,none,.un .not (.t 18)⟩,⟨some 20,none,.mv (.t 19)⟩,⟨some 21,some (20,false),.load 4 true (.t 3)⟩,⟨some 22,some (20,false),.call id_frac_Right [(.t 21)]⟩,⟨some 23,some (20,false),.un .not (.t 22)⟩,⟨some 24,none,.pick (.t 20) (.c (.dat (.bool true))) (.t 23)⟩])
 (.cond (.t 24)
 (.seq (.ops [
 ⟨some 4,none,.mv (.c (.dat (.int .i64 0)))⟩])
 .ret)
 .skip))
 (.seq (.opsD [
 ⟨some 25,none,.fad 0 (.t 2)⟩,⟨some 26,none,.load 2 true (.t 25)⟩,⟨some 27,none,.fad 2 (.t 2)⟩,⟨some 28,none,.load 2 true (.t 27)⟩,⟨some 29,none,.fad 0 (.t 3)⟩,⟨some 30,none,.load 2 true (.t 29)⟩,⟨some 31,none,.fad 2 (.t 3)⟩,⟨some 32,none,.load 2 true (.t 31)⟩,⟨some 5,none,.alloc 135005 [(.dat (.int .i64 0)),.nil]⟩,⟨some 6,none,.alloc 135006 [(.dat (.int .i64 0)),.nil]⟩,⟨some 7,none,.alloc 135007 [(.dat (.int .i64 0)),.nil]⟩,⟨some 8,none,.alloc 135008 [(.dat (.int .i64 0)),.nil]⟩,⟨none,none,.store 2 (.t 5) (.t 26)⟩,⟨none,none,.store 2 (.t 6) (.t 28)⟩,⟨none,none,.store 2 (.t 7) (.t 30)⟩,⟨none,none,.store 2 (.t 8) (.t 32)⟩] [[],[],[],[],[],[],[],[],[1,3,5,7],[1,3,5,7,8],[1,3,5,7,8,9],[1,3,5,7,8,9,10],[3,5,7],[5,7],[7],[]])
 (.seq (.ops [
 ⟨some 9,none,.mv (.c (.dat (.int .i64 1)))⟩])
 (.block 0
 (.loop
 (.seq (.block 1
 (.seq (.ops [
 ⟨some 36,none,.load 2 true (.t 5)⟩,⟨some 37,none,.load 2 true (.t 6)⟩,⟨some 38,none,.call id_big_Div [(.t 36),(.t 37)]⟩,⟨some 35,none,.mv (.t 38)⟩,⟨some 39,none,.ext 0 (.t 35)⟩,⟨some 40,none,.ext 1 (.t 35)⟩,⟨some 41,none,.ext 2 (.t 35)⟩,⟨some 10,none,.alloc 135010 [(.dat (.int .i64 0)),.nil]⟩,⟨some 11,none,.alloc 135011 [(.dat (.int .i64 0)),.nil]⟩,⟨none,none,.store 2 (.t 10) (.t 39)⟩,⟨none,none,.store 2 (.t 11) (.t 40)⟩,⟨some 12,none,.mv (.t 41)⟩])
 (.seq (.ops [
 ⟨some 43,none,.load 2 true (.t 7)⟩,⟨some 44,none,.load 2 true (.t 8)⟩,⟨some 45,none,.call id_big_Div [(.t 43),(.t 44)]⟩,⟨some 42,none,.mv (.t 45)⟩,⟨some 46,none,.ext 0 (.t 42)⟩,⟨some 47,none,.ext 1 (.t 42)⟩,⟨some 48,none,.ext 2 (.t 42)⟩,⟨some 13,none,.alloc 135013 [(.dat (.int .i64 0)),.nil]⟩,⟨some 14,none,.alloc 135014 [(.dat (.int .i64 0)),.nil]⟩,⟨none,none,.store 2 (.t 13) (.t 46)⟩,⟨none,none,.store 2 (.t 14) (.t 47)⟩,⟨some 15,none,.mv (.t 48)⟩])
 (.seq (.seq (.ops [
 ⟨some 49,none,.load 2 true (.t 10)⟩,⟨some 50,none,.load 2 true (.t 13)⟩,⟨some 51,none,.call id_big_Compare [(.t 49),(.t 50)]⟩,⟨some 16,none,.mv (.t 51)⟩])
 (.block 2
 (.seq (.ops [
 ⟨some 53,none,.mv (.t 16)⟩,⟨some 54,none,.bin .neq (.t 53) (.c (.dat (.int .i64 0)))⟩,⟨some 52,none,.mv (.t 54)⟩])
 (.cond (.t 52)
 (.seq (.ops [
 ⟨some 55,none,.mv (.t 9)⟩,⟨some 56,none,.mv (.t 16)⟩,⟨some 57,none,.bin .mul (.t 55) (.t 56)⟩,⟨some 4,none,.mv (.t 57)⟩])
 .ret)
 (.seq (.ops [
 ⟨some 59,none,.fad 0 (.t 11)⟩,⟨some 60,none,.load 1 false (.t 59)⟩,⟨some 61,none,.bin .eql (.t 60) (.c (.dat (.int .i64 0)))⟩,⟨some 62,none,.mv (.t 61)⟩,⟨some 63,some (62,false),.fad 0 (.t 14)⟩,⟨some 64,some (62,false),.load 1 false (.t 63)⟩,⟨some 65,some (62,false),.bin .eql (.t 64) (.c (.dat (.int .i64 0)))⟩,⟨some 66,none,.pick (.t 62) (.c (.dat (.bool true))) (.t 65)⟩,⟨some 58,none,.mv (.t 66)⟩])
 (.cond (.t 58)
 (.seq (.ops [
 ⟨some 67,none,.mv (.t 9)⟩,⟨some 68,none,.fad 0 (.t 11)⟩,⟨some 69,none,.load 1 false (.t 68)⟩,⟨some 70,none,.fad 0 (.t 14)⟩,⟨some 71,none,.load 1 false (.t 70)⟩,⟨some 72,none,.bin .sub (.t 69) (.t 71)⟩,⟨some 73,none,.bin .mul (.t 67) (.t 72)⟩,⟨some 4,none,.mv (.t 73)⟩])
 .ret)
 .skip))))))
 (.opsD [
 ⟨some 74,none,.load 2 true (.t 6)⟩,⟨some 75,none,.load 2 true (.t 11)⟩,⟨some 76,none,.load 2 true (.t 8)⟩,⟨some 77,none,.load 2 true (.t 14)⟩,⟨none,none,.store 2 (.t 5) (.t 74)⟩,⟨none,none,.store 2 (.t 6) (.t 75)⟩,⟨none,none,.store 2 (.t 7) (.t 76)⟩,⟨none,none,.store 2 (.t 8) (.t 77)⟩] [[],[],[],[],[1,2,3],[2,3],[3],[]])))))
 (.ops [
 ⟨some 33,none,.mv (.t 9)⟩,⟨some 34,none,.un .neg (.t 33)⟩,⟨some 9,none,.mv (.t 34)⟩])))))))) }
def mf_frac_one:MFunc :=
 { n:=15,np:=1,res:=[.t 2],body :=
 (.seq (.ops [
 ⟨some 1,none,.box 138001 (.t 0)⟩,⟨some 2,none,.mv (.c (.dat (.bool false)))⟩])
 (.seq (.ops [
 ⟨some 6,none,.load 2 true (.t 1)⟩,⟨some 7,none,.call id_big_Int [(.t 6)]⟩,⟨some 5,none,.mv (.t 7)⟩,⟨some 8,none,.ext 0 (.t 5)⟩,⟨some 9,none,.ext 1 (.t 5)⟩,⟨some 3,none,.mv (.t 8)⟩,⟨some 4,none,.mv (.t 9)⟩])
 (.seq (.ops [
 ⟨some 10,none,.mv (.t 4)⟩,⟨some 11,none,.mv (.t 10)⟩,⟨some 12,some (11,true),.mv (.t 3)⟩,⟨some 13,some (11,true),.bin .eql (.t 12) (.c (.dat (.int .i64 1)))⟩,⟨some 14,none,.pick (.t 11) (.t 13) (.c (.dat (.bool false)))⟩,⟨some 2,none,.mv (.t 14)⟩])
 .ret))) }
def mf_frac_sum:MFunc :=
 { n:=38,np:=4,res:=[.cell 8 2 true,.t 9],body :=
 (.seq (.ops [
 ⟨some 4,none,.box 139004 (.t 0)⟩,⟨some 5,none,.box 139005 (.t 1)⟩,⟨some 6,none,.box 139006 (.t 2)⟩,⟨some 7,none,.box 139007 (.t 3)⟩,⟨some 8,none,.alloc 139008 [(.dat (.int .i64 0)),.nil]⟩,⟨some 9,none,.mv (.c (.dat (.int .i64 0)))⟩])
 (.seq (.ops [
 ⟨some 14,none,.load 2 true (.t 4)⟩,⟨some 15,none,.load 2 true (.t 5)⟩,⟨some 16,none,.call id_big_Mul [(.t 14),(.t 15)]⟩,⟨some 13,none,.mv (.t 16)⟩,⟨some 17,none,.ext 0 (.t 13)⟩,⟨some 18,none,.ext 1 (.t 13)⟩,⟨some 10,none,.alloc 139010 [(.dat (.int .i64 0)),.nil]⟩,⟨none,none,.store 2 (.t 10) (.t 17)⟩,⟨some 11,none,.mv (.t 18)⟩])
 (.seq (.seq (.ops [
 ⟨some 19,none,.mv (.t 11)⟩,⟨some 20,none,.bin .neq (.t 19) (.c (.dat (.int .i64 0)))⟩])
 (.cond (.t 20)
 (.seq (.ops [
 ⟨some 21,none,.build [(.dat (.int .i64 0)),.nil] []⟩,⟨some 22,none,.mv (.t 11)⟩,⟨none,none,.store 2 (.t 8) (.t 21)⟩,⟨some 9,none,.mv (.t 22)⟩])
 .ret)
 .skip))
 (.seq (.ops [
 ⟨some 24,none,.load 2 true (.t 6)⟩,⟨some 25,none,.load 2 true (.t 7)⟩,⟨some 26,none,.call id_big_Mul [(.t 24),(.t 25)]⟩,⟨some 23,none,.mv (.t 26)⟩,⟨some 27,none,.ext 0 (.t 23)⟩,⟨some 28,none,.ext 1 (.t 23)⟩,⟨some 12,none,.alloc 139012 [(.dat (.int .i64 0)),.nil]⟩,⟨none,none,.store 2 (.t 12) (.t 27)⟩,⟨some 11,none,.mv (.t 28)⟩])
 (.seq (.seq (.ops [
 ⟨some 29,none,.mv (.t 11)⟩,⟨some 30,none,.bin .neq (.t 29) (.c (.dat (.int .i64 0)))⟩])
 (.cond (.t 30)
 (.seq (.ops [
 ⟨some 31,none,.build [(.dat (.int .i64 0)),.nil] []⟩,⟨some 32,none,.mv (.t 11)⟩,⟨none,none,.store 2 (.t 8) (.t 31)⟩,⟨some 9,none,.mv (.t 32)⟩])
 .ret)
 .skip))
 (.seq (.ops [
 ⟨some 33,none,.load 2 true (.t 10)⟩,⟨some 34,none,.load 2 true (.t 12)⟩,⟨some 35,none,.call id_big_Add [(.t 33),(.t 34)]⟩,⟨some 36,none,.ext 0 (.t 35)⟩,⟨some 37,none,.ext 1 (.t 35)⟩,⟨none,none,.store 2 (.t 8) (.t 36)⟩,⟨some 9,none,.mv (.t 37)⟩])
 .ret)))))) }
def mf_frac_quotient:MFunc :=
 { n:=22,np:=4,res:=[.cell 8 4 true,.t 9],body :=
 (.seq (.ops [
 ⟨some 4,none,.box 141004 (.t 0)⟩,⟨some 6,none,.box 141006 (.t 2)⟩,⟨some 8,none,.alloc 141008 [(.dat (.int .i64 0)),.nil,(.dat (.int .i64 0)),.nil]⟩,⟨some 9,none,.mv (.c (.dat (.int .i64 0)))⟩])
 (.seq (.seq (.ops [
 ⟨some 10,none,.mv (.t 1)⟩,⟨some 11,none,.bin .neq (.t 10) (.c (.dat (.int .i64 0)))⟩,⟨some 12,none,.mv (.t 11)⟩,⟨some 13,some (12,false),.mv (.t 3)⟩,⟨some 14,some (12,false),.bin .neq (.t 13) (.c (.dat (.int .i64 0)))⟩,⟨some 15,none,.pick (.t 12) (.c (.dat (.bool true))) (.t 14)⟩])
 (.cond (.t 15)
 (.seq (.ops [
 ⟨some 16,none,.build [(.dat (.int .i64 0)),.nil,(.dat (.int .i64 0)),.nil] []⟩,⟨none,none,.store 4 (.t 8) (.t 16)⟩,⟨some 9,none,.mv (.c (.dat (.int .i64 6)))⟩])
 .ret)
 .skip))
 (.seq (.ops [
 ⟨some 17,none,.load 2 true (.t 4)⟩,⟨some 18,none,.load 2 true (.t 6)⟩,⟨some 19,none,.call id_frac_New [(.t 17),(.t 18)]⟩,⟨some 20,none,.ext 0 (.t 19)⟩,⟨some 21,none,.ext 1 (.t 19)⟩,⟨none,none,.store 4 (.t 8) (.t 20)⟩,⟨some 9,none,.mv (.t 21)⟩])
 .ret))) }
def mf_frac_New:MFunc :=
 { n:=60,np:=2,res:=[.cell 4 4 true,.t 5],body :=
 (.seq (.ops [
 ⟨some 2,none,.box 149002 (.t 0)⟩,⟨some 3,none,.box 149003 (.t 1)⟩,⟨some 4,none,.alloc 149004 [(.dat (.int .i64 0)),.nil,(.dat (.int .i64 0)),.nil]⟩,⟨some 5,none,.mv (.c (.dat (.int .i64 0)))⟩])
 (.seq (.block 0
 (.seq (.ops [
 ⟨some 15,none,.load 2 true (.t 2)⟩,⟨some 16,none,.call id_big_Right [(.t 15)]⟩,⟨some 17,none,.un .not (.t 16)⟩,⟨some 18,none,.mv (.t 17)⟩,⟨some 19,some (18,false),.load 2 true (.t 3)⟩,⟨some 20,some (18,false),.call id_big_Right [(.t 19)]⟩,⟨some 21,some (18,false),.un .not (.t 20)⟩,⟨some 22,none,.pick (.t 18) (.c (.dat (.bool true))) (.t 21)⟩,⟨some 14,none,.mv (.t 22)⟩])
 (.cond (.t 14)
 (.seq (.ops [
 ⟨some 23,none,.build [(.dat (.int .i64 0)),.nil,(.dat (.int .i64 0)),.nil] []⟩,⟨none,none,.store 4 (.t 4) (.t 23)⟩,⟨some 5,none,.mv (.c (.dat (.int .i64 1)))⟩])
 .ret)
 (.seq (.ops [
 ⟨some 25,none,.fad 0 (.t 3)⟩,⟨some 26,none,.load 1 false (.t 25)⟩,⟨some 27,none,.bin .eql (.t 26) (.c (.dat (.int .i64 0)))⟩,⟨some 24,none,.mv (.t 27)⟩])
 (.cond (.t 24)
 (.seq (.ops [
 ⟨some 28,none,.build [(.dat (.int .i64 0)),.nil,(.dat (.int .i64 0)),.nil] []⟩,⟨none,none,.store 4 (.t 4) (.t 28)⟩,⟨some 5,none,.mv (.c (.dat (.int .i64 15)))⟩])
 .ret)
 (.seq (.ops [
 ⟨some 30,none,.fad 0 (.t 3)⟩,⟨some 31,none,.load 1 false (.t 30)⟩,⟨some 32,none,.bin .lss (.t 31) (.c (.dat (.int .i64 0)))⟩,⟨some 29,none,.mv (.t 32)⟩])
 (.cond (.t 29)
 (.opsD [
 ⟨some 33,none,.load 2 true (.t 2)⟩,⟨some 34,none,.call id_big_Neg [(.t 33)]⟩,⟨some 35,none,.load 2 true (.t 3)⟩,⟨some 36,none,.call id_big_Neg [(.t 35)]⟩,⟨none,none,.store 2 (.t 2) (.t 34)⟩,⟨none,none,.store 2 (.t 3) (.t 36)⟩] [[],[],[],[],[],[]])
 .skip)))))))
 (.seq (.ops [
 ⟨some 38,none,.load 2 true (.t 2)⟩,⟨some 39,none,.load 2 true (.t 3)⟩,⟨some 40,none,.call id_big_Gcd [(.t 38),(.t 39)]⟩,⟨some 37,none,.mv (.t 40)⟩,⟨some 41,none,.ext 0 (.t 37)⟩,⟨some 42,none,.ext 1 (.t 37)⟩,⟨some 6,none,.alloc 149006 [(.dat (.int .i64 0)),.nil]⟩,⟨none,none,.store 2 (.t 6) (.t 41)⟩,⟨some 7,none,.mv (.t 42)⟩])
 (.seq (.ops [
 ⟨some 44,none,.load 2 true (.t 2)⟩,⟨some 45,none,.load 2 true (.t 6)⟩,⟨some 46,none,.call id_big_Div [(.t 44),(.t 45)]⟩,⟨some 43,none,.mv (.t 46)⟩,⟨some 47,none,.ext 0 (.t 43)⟩,⟨some 48,none,.ext 1 (.t 43)⟩,⟨some 49,none,.ext 2 (.t 43)⟩,⟨some 8,none,.alloc 149008 [(.dat (.int .i64 0)),.nil]⟩,⟨some 9,none,.alloc 149009 [(.dat (.int .i64 0)),.nil]⟩,⟨none,none,.store 2 (.t 8) (.t 47)⟩,⟨none,none,.store 2 (.t 9) (.t 48)⟩,⟨some 10,none,.mv (.t 49)⟩])
 (.seq (.ops [
 ⟨some 51,none,.load 2 true (.t 3)⟩,⟨some 52,none,.load 2 true (.t 6)⟩,⟨some 53,none,.call id_big_Div [(.t 51),(.t 52)]⟩,⟨some 50,none,.mv (.t 53)⟩,⟨some 54,none,.ext 0 (.t 50)⟩,⟨some 55,none,.ext 1 (.t 50)⟩,⟨some 56,none,.ext 2 (.t 50)⟩,⟨some 11,none,.alloc 149011 [(.dat (.int .i64 0)),.nil]⟩,⟨some 12,none,.alloc 149012 [(.dat (.int .i64 0)),.nil]⟩,⟨none,none,.store 2 (.t 11) (.t 54)⟩,⟨none,none,.store 2 (.t 12) (.t 55)⟩,⟨some 13,none,.mv (.t 56)⟩])
 (.seq (.ops [
 ⟨some 57,none,.load 2 true (.t 8)⟩,⟨some 58,none,.load 2 true (.t 11)⟩,⟨some 59,none,.build [(.dat (.int .i64 0)),.nil,(.dat (.int .i64 0)),.nil] [(0,2,(.t 57)),(2,2,(.t 58))]⟩,⟨none,none,.store 4 (.t 4) (.t 59)⟩,⟨some 5,none,.mv (.c (.dat (.int .i64 0)))⟩])
 .ret)))))) }
def mf_frac_Div:MFunc :=
 { n:=49,np:=2,res:=[.cell 4 4 true,.t 5],body :=
 (.seq (.ops [
 ⟨some 2,none,.box 169002 (.t 0)⟩,⟨some 3,none,.box 169003 (.t 1)⟩,⟨some 4,none,.alloc 169004 [(.dat (.int .i64 0)),.nil,(.dat (.int .i64 0)),.nil]⟩,⟨some 5,none,.mv (.c (.dat (.int .i64 0)))⟩])
 (.seq (.block 0
 (.seq (.ops [
 ⟨some 11,none,.load 4 true (.t 2)⟩,⟨some 12,none,.call id_frac_Right [(.t 11)]⟩,⟨some 13,none,.un .not (.t 12)⟩,⟨some 14,none,.mv (.t 13)⟩,⟨some 15,some (14,false),.load 4 true (.t 3)⟩,⟨some 16,some (14,false),.call id_frac_Right [(.t 15)]⟩,⟨some 17,some (14,false),.un .not (.t 16)⟩,⟨some 18,none,.pick (.t 14) (.c (.dat (.bool true))) (.t 17)⟩,⟨some 10,none,.mv (.t 18)⟩])
 (.cond (.t 10)
 (.seq (.ops [
 ⟨some 19,none,.build [(.dat (.int .i64 0)),.nil,(.dat (.int .i64 0)),.nil] []⟩,⟨none,none,.store 4 (.t 4) (.t 19)⟩,⟨some 5,none,.mv (.c (.dat (.int .i64 1)))⟩])
 .ret)
 (.seq (.ops [
 ⟨some 21,none,.fad 0 (.t 3)⟩,⟨some 22,none,.fad 0 (.t 21)⟩,⟨some 23,none,.load 1 false (.t 22)⟩,⟨some 24,none,.bin .eql (.t 23) (.c (.dat (.int .i64 0)))⟩,⟨some 20,none,.mv (.t 24)⟩])
 (.cond (.t 20)
 (.seq (.ops [
 ⟨some 25,none,.build [(.dat (.int .i64 0)),.nil,(.dat (.int .i64 0)),.nil] []⟩,⟨none,none,.store 4 (.t 4) (.t 25)⟩,⟨some 5,none,.mv (.c (.dat (.int .i64 15)))⟩])
 .ret)
 .skip)))))
 (.seq (.ops [
 ⟨some 27,none,.fad 0 (.t 2)⟩,⟨some 28,none,.load 2 true (.t 27)⟩,⟨some 29,none,.fad 2 (.t 3)⟩,⟨some 30,none,.load 2 true (.t 29)⟩,⟨some 31,none,.call id_big_Mul [(.t 28),(.t 30)]⟩,⟨some 26,none,.mv (.t 31)⟩,⟨some 32,none,.ext 0 (.t 26)⟩,⟨some 33,none,.ext 1 (.t 26)⟩,⟨some 6,none,.alloc 169006 [(.dat (.int .i64 0)),.nil]⟩,⟨none,none,.store 2 (.t 6) (.t 32)⟩,⟨some 7,none,.mv (.t 33)⟩])
 (.seq (.ops [
 ⟨some 35,none,.fad 2 (.t 2)⟩,⟨some 36,none,.load 2 true (.t 35)⟩,⟨some 37,none,.fad 0 (.t 3)⟩,⟨some 38,none,.load 2 true (.t 37)⟩,⟨some 39,none,.call id_big_Mul [(.t 36),(.t 38)]⟩,⟨some 34,none,.mv (.t 39)⟩,⟨some 40,none,.ext 0 (.t 34)⟩,⟨some 41,none,.ext 1 (.t 34)⟩,⟨some 8,none,.alloc 169008 [(.dat (.int .i64 0)),.nil]⟩,⟨none,none,.store 2 (.t 8) (.t 40)⟩,⟨some 9,none,.mv (.t 41)⟩])
 (.seq (.ops [
 ⟨some 42,none,.load 2 true (.t 6)⟩,⟨some 43,none,.mv (.t 7)⟩,⟨some 44,none,.load 2 true (.t 8)⟩,⟨some 45,none,.mv (.t 9)⟩,⟨some 46,none,.call id_frac_quotient [(.t 42),(.t 43),(.t 44),(.t 45)]⟩,⟨some 47,none,.ext 0 (.t 46)⟩,⟨some 48,none,.ext 1 (.t 46)⟩,⟨none,none,.store 4 (.t 4) (.t 47)⟩,⟨some 5,none,.mv (.t 48)⟩])
 .ret))))) }
end Go.Mini
namespace Go.Mini
open Go
set_option maxRecDepth 10000
set_option maxHeartbeats 2000000
/-- A fraction as it lies there. -/
abbrev FRaw:=Raw × Raw
def fracL (f:FRaw):List Data:=[.int .i64 f.1.1,.sl (f.1.2.map i64L),.int .i64 f.2.1,.sl (f.2.2.map i64L)]
def fracE (x:FRaw × Int):Data:=.tup [.agg (fracL x.1),.int .i64 x.2]
def encR (x:Rat):FRaw:=(encB x.num,encB x.den)
def limR (x:Rat):Prop:=x.num.natAbs<LIM∧x.den<LIM
def zeroF:FRaw:=((0,[]),(0,[]))
def rightF (f:FRaw):Bool:=rightR f.1&&(rightR f.2&&(f.2.1==1&&(Nat.gcd (valB f.1).natAbs (valB f.2).natAbs==1)))
def valF (f:FRaw):Rat:=Rat.divInt (valB f.1) (valB f.2)
theorem valF_enc (x:Rat):valF (encR x)=x:=by
 unfold valF encR
 rw[valB_enc,valB_enc,Rat.num_divInt_den]
theorem encR_inj {x y:Rat} (h:encR x=encR y):x=y:=by rw[←valF_enc x,h,valF_enc]
theorem encB_inj {x y:Int} (h:encB x=encB y):x=y:=by rw[←valB_enc x,h,valB_enc]
theorem den_pos (x:Rat):0<(x.den:Int):=Int.natCast_pos.2 x.den_pos
theorem encB_pos {n:Int} (h:0<n):(encB n).1=1:=Int.sign_eq_one_of_pos h
theorem rightF_iff (f:FRaw):rightF f=true↔∃ x,limR x∧f=encR x:=by
 unfold rightF
 simp only[Bool.and_eq_true,beq_iff_eq]
 constructor
 ·rintro⟨h1,h2,h3,h4⟩
  obtain⟨p,hp,e1⟩:=(rightR_iff _).1 h1
  obtain⟨q,hq,e2⟩:=(rightR_iff _).1 h2
  obtain⟨f1,f2⟩:=f
  simp only at e1 e2 h3 h4
  subst e1 e2
  rw[valB_enc,valB_enc] at h4
  have hqp:0<q:=by
   rcases sign_tri q with ⟨_,h⟩ | ⟨e,_⟩ | ⟨e,_⟩
   ·exact h
   ·have:q.sign=1:=h3;omega
   ·have:q.sign=1:=h3;omega
  refine⟨⟨p,q.natAbs,by omega,h4⟩,⟨hp,hq⟩,?_⟩
  unfold encR
  rw[show ((q.natAbs:Nat):Int)=q by omega]
 ·rintro⟨x,⟨h1,h2⟩,rfl⟩
  have hd:(x.den:Int).natAbs<LIM:=by rw[Int.natAbs_natCast];exact h2
  refine⟨right_enc h1,right_enc hd,encB_pos (den_pos x),?_⟩
  unfold encR
  rw[valB_enc,valB_enc,Int.natAbs_natCast]
  exact x.reduced
theorem rightF_enc {x:Rat} (h:limR x):rightF (encR x)=true:=(rightF_iff _).2 ⟨x,h,rfl⟩
theorem limD {x:Rat} (h:limR x):(x.den:Int).natAbs<LIM:=by rw[Int.natAbs_natCast];exact h.2
theorem len_ok {z:Int} (h:z.natAbs<LIM):(dg z.natAbs).length≤1000000:=by have:=lim_len h;omega
def oneR (a:Raw):Bool:=(intR a).2&&((intR a).1==1)
theorem oneR_enc {z:Int} (h:z.natAbs<LIM):oneR (encB z)=decide (z=1):=by
 unfold oneR intR
 rw[right_enc h,valB_enc]
 by_cases hi:i64R z
 ·rw[if_pos ⟨rfl,hi⟩]
  simp only[Bool.true_and]
  rfl
 ·rw[if_neg fun h=>hi h.2]
  have:z≠1:=by rintro rfl;exact hi (by unfold i64R;omega)
  simp [this]
noncomputable def F_fone:List Data→Option PRes:=FF (α:=Int × (List Int)) (fun (s,l)=>([.agg [.int .i64 s,.sl (l.map i64L)]]:List Data)) (fun (s,l)=>onlyIf (l.length≤1000000) (.same (.bool (oneR (s,l)))))
theorem F_fone_inj:∀ a b:Int × (List Int),(fun (s,l)=>([.agg [.int .i64 s,.sl (l.map i64L)]]:List Data)) a=(fun (s,l)=>([.agg [.int .i64 s,.sl (l.map i64L)]]:List Data)) b→a=b:=by
  rintro⟨s1,l1⟩ ⟨s2,l2⟩ h
  simp only[yM,Data.agg.injEq,Data.int.injEq,Data.sl.injEq] at h;exact Prod.ext h.1.1.2 (map_inj i64L_inj _ _ h.1.2.1)
@[go_sem] theorem F_fone_eq (s:Int) (l:List Int) (hc:l.length≤1000000):F_fone [.agg [.int .i64 s,.sl (l.map i64L)]]=some (.same (.bool (oneR (s,l)))):=(FF_eq F_fone_inj (s,l)).trans (onlyIf_pos hc _)
theorem w_fone (T:Tab) (h_bigInt:T id_big_Int=mkE F_bigInt) (s:Int) (l:List Int) (hc:l.length≤1000000) :
  wp T mf_frac_one.body (endS mf_frac_one.res (.same (.bool (oneR (s,l))))) ⟨initTm [.dat (.agg [.int .i64 s,.sl (l.map i64L)])],emp⟩:=by
 refine wp_start ?_
 simp only[mf_frac_one]
 unfold oneR
 rcases h:(intR (s,l)).2
 ·simp only[go_sem,reduceIte,yA,yB,yC,yD,yE,yH,reduceCtorEq,yF,yG,yI,h_bigInt,hc,h]
  repeat' (first|refine qqA ?_ ?_|refine qqB ?_ ?_|refine qqC ?_ ?_|refine qqD ?_ ?_|refine qqE ?_ ?_|refine qqF ?_ ?_)<;>intro h<;>simp only[h,go_sem,reduceIte,yA,yB,yC,yD,yE,yH,reduceCtorEq,yF,yG,yI,h_bigInt,hc,h]
 ·simp only[go_sem,reduceIte,yA,yB,yC,yD,yE,yH,reduceCtorEq,yF,yG,yI,h_bigInt,hc,h]
  repeat' (first|refine qqA ?_ ?_|refine qqB ?_ ?_|refine qqC ?_ ?_|refine qqD ?_ ?_|refine qqE ?_ ?_|refine qqF ?_ ?_)<;>intro h<;>simp only[h,go_sem,reduceIte,yA,yB,yC,yD,yE,yH,reduceCtorEq,yF,yG,yI,h_bigInt,hc,h]
noncomputable def F_fRight:List Data→Option PRes:=FF (α:=Int × (List Int) × Int × (List Int)) (fun (s,l,s2,l2)=>([.agg [.int .i64 s,.sl (l.map i64L),.int .i64 s2,.sl (l2.map i64L)]]:List Data)) (fun (s,l,s2,l2)=>onlyIf (l.length≤1000000∧l2.length≤1000000) (.same (.bool (rightF ((s,l),(s2,l2))))))
theorem F_fRight_inj:∀ a b:Int × (List Int) × Int × (List Int),(fun (s,l,s2,l2)=>([.agg [.int .i64 s,.sl (l.map i64L),.int .i64 s2,.sl (l2.map i64L)]]:List Data)) a=(fun (s,l,s2,l2)=>([.agg [.int .i64 s,.sl (l.map i64L),.int .i64 s2,.sl (l2.map i64L)]]:List Data)) b→a=b:=by
  rintro⟨s1,l1,s21,l21⟩ ⟨s2,l2,s22,l22⟩ h
  simp only[yM,Data.agg.injEq,Data.int.injEq,Data.sl.injEq] at h;exact Prod.ext h.1.1.2 (Prod.ext (map_inj i64L_inj _ _ h.1.2.1) (Prod.ext h.1.2.2.1.2 (map_inj i64L_inj _ _ h.1.2.2.2.1)))
@[go_sem] theorem F_fRight_eq (s:Int) (l:List Int) (s2:Int) (l2:List Int) (hc:l.length≤1000000∧l2.length≤1000000):F_fRight [.agg [.int .i64 s,.sl (l.map i64L),.int .i64 s2,.sl (l2.map i64L)]]=some (.same (.bool (rightF ((s,l),(s2,l2))))):=(FF_eq F_fRight_inj (s,l,s2,l2)).trans (onlyIf_pos hc _)
theorem w_fRight (T:Tab) (h_bigRight:T id_big_Right=mkE F_bigRight) (h_Gcd:T id_big_Gcd=mkE F_Gcd) (h_fone:T id_frac_one=mkE F_fone) (s:Int) (l:List Int) (s2:Int) (l2:List Int) (hc:l.length≤1000000∧l2.length≤1000000) :
  wp T mf_frac_Right.body (endS mf_frac_Right.res (.same (.bool (rightF ((s,l),(s2,l2)))))) ⟨initTm [.dat (.agg [.int .i64 s,.sl (l.map i64L),.int .i64 s2,.sl (l2.map i64L)])],emp⟩:=by
 refine wp_start ?_
 simp only[mf_frac_Right]
 obtain⟨hl1,hl2⟩:=hc
 by_cases hr:rightR (s,l)=true
 ·by_cases hr2:rightR (s2,l2)=true
  ·by_cases hs:s2=1
   ·obtain⟨x,hx,e⟩:=(rightR_iff _).1 hr
    obtain⟨y,hy,e2⟩:=(rightR_iff _).1 hr2
    have hg:gcdR (s,l) (s2,l2)=(encB ((Nat.gcd x.natAbs y.natAbs:Nat):Int),0):=by
     unfold gcdR;rw[hr,hr2,e,e2,valB_enc,valB_enc];rfl
    have hgl:=gcd_lim hx hy
    have ho:oneR (encB ((Nat.gcd x.natAbs y.natAbs:Nat):Int))=(Nat.gcd x.natAbs y.natAbs==1):=by
     rw[oneR_enc (by rw[Int.natAbs_natCast];exact hgl)]
     rw[Bool.eq_iff_iff]
     simp
     omega
    have hv1:valB (s,l)=x:=by rw[e,valB_enc]
    have hv2:valB (s2,l2)=y:=by rw[e2,valB_enc]
    have hR:rightF ((s,l),(s2,l2))=(Nat.gcd x.natAbs y.natAbs==1):=by
     show (rightR (s,l)&&(rightR (s2,l2)&&((s2==1)&&(Nat.gcd (valB (s,l)).natAbs (valB (s2,l2)).natAbs==1))))=_
     rw[hr,hr2,hv1,hv2,show (s2==1)=true by simpa using hs]
     simp only[Bool.true_and]
    have hgl2:((encB ((Nat.gcd x.natAbs y.natAbs:Nat):Int)).2).length≤1000000:=len_ok (by rw[Int.natAbs_natCast];exact hgl)
    rw[hR,←ho]
    generalize encB ((Nat.gcd x.natAbs y.natAbs:Nat):Int)=G at *
    obtain⟨g1,g2⟩:=G
    have hs':(s2==1)=true:=by simpa using hs
    simp only[go_sem,reduceIte,yA,yB,yC,yD,yE,yH,reduceCtorEq,yF,yG,yI,h_bigRight,h_Gcd,h_fone,hr,hr2,hl1,hl2,hs',hg,hgl2,bigE,bigL,show ((0:Int)==0)=true from rfl]
    repeat' (first|refine qqA ?_ ?_|refine qqB ?_ ?_|refine qqC ?_ ?_|refine qqD ?_ ?_|refine qqE ?_ ?_|refine qqF ?_ ?_)<;>intro h<;>simp only[h,go_sem,reduceIte,yA,yB,yC,yD,yE,yH,reduceCtorEq,yF,yG,yI,h_bigRight,h_Gcd,h_fone,hr,hr2,hl1,hl2,hs',hg,hgl2,bigE,bigL,show ((0:Int)==0)=true from rfl]
   ·have hR:rightF ((s,l),(s2,l2))=false:=by unfold rightF;simp [hs]
    have hs':(s2==1)=false:=by simpa using hs
    rw[hR]
    simp only[go_sem,reduceIte,yA,yB,yC,yD,yE,yH,reduceCtorEq,yF,yG,yI,h_bigRight,h_Gcd,h_fone,hr,hr2,hl1,hl2,hs']
    repeat' (first|refine qqA ?_ ?_|refine qqB ?_ ?_|refine qqC ?_ ?_|refine qqD ?_ ?_|refine qqE ?_ ?_|refine qqF ?_ ?_)<;>intro h<;>simp only[h,go_sem,reduceIte,yA,yB,yC,yD,yE,yH,reduceCtorEq,yF,yG,yI,h_bigRight,h_Gcd,h_fone,hr,hr2,hl1,hl2,hs']
  ·have hr2:rightR (s2,l2)=false:=by simpa using hr2
   have hR:rightF ((s,l),(s2,l2))=false:=by unfold rightF;simp [hr2]
   rw[hR]
   simp only[go_sem,reduceIte,yA,yB,yC,yD,yE,yH,reduceCtorEq,yF,yG,yI,h_bigRight,h_Gcd,h_fone,hr,hr2,hl1,hl2]
   repeat' (first|refine qqA ?_ ?_|refine qqB ?_ ?_|refine qqC ?_ ?_|refine qqD ?_ ?_|refine qqE ?_ ?_|refine qqF ?_ ?_)<;>intro h<;>simp only[h,go_sem,reduceIte,yA,yB,yC,yD,yE,yH,reduceCtorEq,yF,yG,yI,h_bigRight,h_Gcd,h_fone,hr,hr2,hl1,hl2]
 ·have hr:rightR (s,l)=false:=by simpa using hr
  have hR:rightF ((s,l),(s2,l2))=false:=by unfold rightF;simp [hr]
  rw[hR]
  simp only[go_sem,reduceIte,yA,yB,yC,yD,yE,yH,reduceCtorEq,yF,yG,yI,h_bigRight,h_Gcd,h_fone,hr,hl1,hl2]
  repeat' (first|refine qqA ?_ ?_|refine qqB ?_ ?_|refine qqC ?_ ?_|refine qqD ?_ ?_|refine qqE ?_ ?_|refine qqF ?_ ?_)<;>intro h<;>simp only[h,go_sem,reduceIte,yA,yB,yC,yD,yE,yH,reduceCtorEq,yF,yG,yI,h_bigRight,h_Gcd,h_fone,hr,hl1,hl2]
/-! ### New -/
def newR (p q:Raw):FRaw × Int :=
 if (rightR p&&rightR q)=true then (if valB q=0 then (zeroF,15) else (encR (Rat.divInt (valB p) (valB q)),0)) else (zeroF,1)
theorem newR_enc {p q:Int} (hp:p.natAbs<LIM) (hq:q.natAbs<LIM) (h0:q≠0):newR (encB p) (encB q)=(encR (Rat.divInt p q),0):=by
 unfold newR
 rw[right_enc hp,right_enc hq,valB_enc,valB_enc,if_pos (by rfl),if_neg h0]
theorem divInt_parts {p q:Int} (hq:0<q):(Rat.divInt p q).num=p.fdiv ((Nat.gcd p.natAbs q.natAbs:Nat):Int)∧((Rat.divInt p q).den:Int)=q.fdiv ((Nat.gcd p.natAbs q.natAbs:Nat):Int):=by
 rw[Rat.num_divInt,Rat.den_divInt,if_neg (by omega),Int.sign_eq_one_of_pos hq,Int.one_mul]
 have hg:q.gcd p=Nat.gcd p.natAbs q.natAbs:=by rw[Int.gcd_comm];rfl
 rw[hg]
 have h0:(0:Int)≤((Nat.gcd p.natAbs q.natAbs:Nat):Int):=Int.natCast_nonneg _
 rw[Int.fdiv_eq_ediv_of_nonneg _ h0,Int.fdiv_eq_ediv_of_nonneg _ h0]
 refine⟨rfl,?_⟩
 rw[Int.natCast_ediv]
 congr 1
 omega
theorem gcd_pos' {p q:Int} (hq:q≠0):0<Nat.gcd p.natAbs q.natAbs:=Nat.gcd_pos_of_pos_right _ (by omega)
theorem divInt_lim {p q:Int} (hp:p.natAbs<LIM) (hq:q.natAbs<LIM):limR (Rat.divInt p q):=by
 have main:∀ {p q:Int},p.natAbs<LIM→q.natAbs<LIM→0<q→limR (Rat.divInt p q):=by
  intro p q hp hq h0
  obtain⟨h1,h2⟩:=divInt_parts (p:=p) h0
  have hg:=gcd_pos' (p:=p) (q:=q) (by omega)
  refine⟨?_,?_⟩
  ·rw[h1];exact fdiv_lim hp (by omega)
  ·have:=fdiv_lim (y:=((Nat.gcd p.natAbs q.natAbs:Nat):Int)) hq (by omega)
   rw[←h2,Int.natAbs_natCast] at this
   exact this
 rcases Int.lt_trichotomy q 0 with h | h | h
 ·rw[←Rat.neg_divInt_neg]
  exact main (by omega) (by omega) (by omega)
 ·subst h
  rw[Rat.divInt_zero]
  unfold limR LIM
  exact⟨Nat.pow_pos (by omega),Nat.one_lt_pow (by omega) (by omega)⟩
 ·exact main hp hq h
theorem newR_neg {p q:Int} (hp:p.natAbs<LIM) (hq:q.natAbs<LIM) (h0:q≠0):newR (encB p) (encB q)=newR (encB (-p)) (encB (-q)):=by
 rw[newR_enc hp hq h0,newR_enc (by omega) (by omega) (by omega),Rat.neg_divInt_neg]
noncomputable def F_fNew:List Data→Option PRes:=FF (α:=Int × (List Int) × Int × (List Int)) (fun (s,l,s2,l2)=>([.agg [.int .i64 s,.sl (l.map i64L)],.agg [.int .i64 s2,.sl (l2.map i64L)]]:List Data)) (fun (s,l,s2,l2)=>onlyIf (l.length≤1000000∧l2.length≤1000000) (.same (fracE (newR (s,l) (s2,l2)))))
theorem F_fNew_inj:∀ a b:Int × (List Int) × Int × (List Int),(fun (s,l,s2,l2)=>([.agg [.int .i64 s,.sl (l.map i64L)],.agg [.int .i64 s2,.sl (l2.map i64L)]]:List Data)) a=(fun (s,l,s2,l2)=>([.agg [.int .i64 s,.sl (l.map i64L)],.agg [.int .i64 s2,.sl (l2.map i64L)]]:List Data)) b→a=b:=by
  rintro⟨s1,l1,s21,l21⟩ ⟨s2,l2,s22,l22⟩ h
  simp only[yM,Data.agg.injEq,Data.int.injEq,Data.sl.injEq] at h;exact Prod.ext h.1.1.2 (Prod.ext (map_inj i64L_inj _ _ h.1.2.1) (Prod.ext h.2.1.1.2 (map_inj i64L_inj _ _ h.2.1.2.1)))
@[go_sem] theorem F_fNew_eq (s:Int) (l:List Int) (s2:Int) (l2:List Int) (hc:l.length≤1000000∧l2.length≤1000000):F_fNew [.agg [.int .i64 s,.sl (l.map i64L)],.agg [.int .i64 s2,.sl (l2.map i64L)]]=some (.same (fracE (newR (s,l) (s2,l2)))):=(FF_eq F_fNew_inj (s,l,s2,l2)).trans (onlyIf_pos hc _)
theorem w_fNew (T:Tab) (h_bigRight:T id_big_Right=mkE F_bigRight) (h_Neg:T id_big_Neg=mkE F_Neg) (h_Gcd:T id_big_Gcd=mkE F_Gcd) (h_Div:T id_big_Div=mkE F_Div) (s:Int) (l:List Int) (s2:Int) (l2:List Int) (hc:l.length≤1000000∧l2.length≤1000000) :
  wp T mf_frac_New.body (endS mf_frac_New.res (.same (fracE (newR (s,l) (s2,l2))))) ⟨initTm [.dat (.agg [.int .i64 s,.sl (l.map i64L)]),.dat (.agg [.int .i64 s2,.sl (l2.map i64L)])],emp⟩:=by
 refine wp_start ?_
 simp only[mf_frac_New]
 obtain⟨hl1,hl2⟩:=hc
 by_cases hr:rightR (s,l)=true
 ·by_cases hr2:rightR (s2,l2)=true
  ·obtain⟨x,hx,e⟩:=(rightR_iff _).1 hr
   obtain⟨y,hy,e2⟩:=(rightR_iff _).1 hr2
   by_cases h0:y=0
   ·have hm:newR (s,l) (s2,l2)=(zeroF,15):=by
     unfold newR;rw[hr,hr2,e2,valB_enc,if_pos (by rfl),if_pos h0]
    rw[hm]
    cases e
    cases e2
    have hs:(y.sign==0)=true:=by rw[h0];rfl
    simp only[go_sem,reduceIte,yA,yB,yC,yD,yE,yH,reduceCtorEq,yF,yG,yI,h_bigRight,h_Neg,h_Gcd,h_Div,hr,hr2,hl1,hl2,hs,fracE,fracL,zeroF,List.map_nil]
    repeat' (first|refine qqA ?_ ?_|refine qqB ?_ ?_|refine qqC ?_ ?_|refine qqD ?_ ?_|refine qqE ?_ ?_|refine qqF ?_ ?_)<;>intro h<;>simp only[h,go_sem,reduceIte,yA,yB,yC,yD,yE,yH,reduceCtorEq,yF,yG,yI,h_bigRight,h_Neg,h_Gcd,h_Div,hr,hr2,hl1,hl2,hs,fracE,fracL,zeroF,List.map_nil]
   ·have main:∀ p q:Int,p.natAbs<LIM→q.natAbs<LIM→0<q→∃ g:Raw,gcdR (encB p) (encB q)=(g,0)∧g.2.length≤1000000∧divR (encB p) g=(encB (Rat.divInt p q).num,encB (p.fmod ((Nat.gcd p.natAbs q.natAbs:Nat):Int)),0)∧divR (encB q) g=(encB (Rat.divInt p q).den,encB (q.fmod ((Nat.gcd p.natAbs q.natAbs:Nat):Int)),0):=by
     intro p q hp hq hq0
     have hgl:=gcd_lim hp hq
     have hgl':((Nat.gcd p.natAbs q.natAbs:Nat):Int).natAbs<LIM:=by rw[Int.natAbs_natCast];exact hgl
     have hg0:=gcd_pos' (p:=p) (q:=q) (by omega)
     obtain⟨h1,h2⟩:=divInt_parts (p:=p) hq0
     refine⟨encB ((Nat.gcd p.natAbs q.natAbs:Nat):Int),?_,len_ok hgl',?_,?_⟩
     ·unfold gcdR;rw[right_enc hp,right_enc hq,valB_enc,valB_enc];rfl
     ·rw[divR_enc hp hgl' (by omega),h1]
     ·rw[divR_enc hq hgl' (by omega),h2]
    have hs0:(y.sign==0)=false:=by simpa using h0
    rcases Int.lt_or_gt_of_ne h0 with hneg | hpos
    ·have hs1:decide (y.sign<0)=true:=by rw[Int.sign_eq_neg_one_of_neg hneg];rfl
     obtain⟨⟨g1,g2⟩,hg,hgl,hd1,hd2⟩:=main (-x) (-y) (by omega) (by omega) (by omega)
     have hm:newR (s,l) (s2,l2)=(encR (Rat.divInt (-x) (-y)),0):=by
      rw[e,e2,newR_enc hx hy h0,Rat.neg_divInt_neg]
     rw[hm]
     have hn1:negR (s,l)=encB (-x):=by unfold negR;rw[if_pos hr,e,valB_enc]
     have hn2:negR (s2,l2)=encB (-y):=by unfold negR;rw[if_pos hr2,e2,valB_enc]
     have hy1:s2=y.sign:=congrArg Prod.fst e2
     have hl3:(encB (-x)).2.length≤1000000:=len_ok (by omega)
     have hl4:(encB (-y)).2.length≤1000000:=len_ok (by omega)
     clear e e2
     unfold encR
     generalize encB (-x)=X at *
     generalize encB (-y)=Y at *
     obtain⟨x1,x2⟩:=X
     obtain⟨y1,y2⟩:=Y
     rw[←hy1] at hs0 hs1
     simp only[go_sem,reduceIte,yA,yB,yC,yD,yE,yH,reduceCtorEq,yF,yG,yI,h_bigRight,h_Neg,h_Gcd,h_Div,hr,hr2,hl1,hl2,hs0,hs1,hn1,hn2,hl3,hl4,hg,hgl,hd1,hd2,fracE,fracL,bigE,bigE2,bigL]
     repeat' (first|refine qqA ?_ ?_|refine qqB ?_ ?_|refine qqC ?_ ?_|refine qqD ?_ ?_|refine qqE ?_ ?_|refine qqF ?_ ?_)<;>intro h<;>simp only[h,go_sem,reduceIte,yA,yB,yC,yD,yE,yH,reduceCtorEq,yF,yG,yI,h_bigRight,h_Neg,h_Gcd,h_Div,hr,hr2,hl1,hl2,hs0,hs1,hn1,hn2,hl3,hl4,hg,hgl,hd1,hd2,fracE,fracL,bigE,bigE2,bigL]
    ·have hs1:decide (y.sign<0)=false:=by rw[Int.sign_eq_one_of_pos hpos];rfl
     obtain⟨⟨g1,g2⟩,hg,hgl,hd1,hd2⟩:=main x y hx hy hpos
     have hm:newR (s,l) (s2,l2)=(encR (Rat.divInt x y),0):=by
      rw[e,e2,newR_enc hx hy h0]
     rw[hm]
     have hy1:s2=y.sign:=congrArg Prod.fst e2
     rw[←e] at hg hd1
     rw[←e2] at hg hd2
     rw[←hy1] at hs0 hs1
     unfold encR
     simp only[go_sem,reduceIte,yA,yB,yC,yD,yE,yH,reduceCtorEq,yF,yG,yI,h_bigRight,h_Neg,h_Gcd,h_Div,hr,hr2,hl1,hl2,hs0,hs1,hg,hgl,hd1,hd2,fracE,fracL,bigE,bigE2,bigL]
     repeat' (first|refine qqA ?_ ?_|refine qqB ?_ ?_|refine qqC ?_ ?_|refine qqD ?_ ?_|refine qqE ?_ ?_|refine qqF ?_ ?_)<;>intro h<;>simp only[h,go_sem,reduceIte,yA,yB,yC,yD,yE,yH,reduceCtorEq,yF,yG,yI,h_bigRight,h_Neg,h_Gcd,h_Div,hr,hr2,hl1,hl2,hs0,hs1,hg,hgl,hd1,hd2,fracE,fracL,bigE,bigE2,bigL]
  ·have hr2:rightR (s2,l2)=false:=by simpa using hr2
   have hm:newR (s,l) (s2,l2)=(zeroF,1):=by unfold newR;rw[hr2,Bool.and_false];rfl
   rw[hm]
   simp only[go_sem,reduceIte,yA,yB,yC,yD,yE,yH,reduceCtorEq,yF,yG,yI,h_bigRight,h_Neg,h_Gcd,h_Div,hr,hr2,hl1,hl2,fracE,fracL,zeroF,List.map_nil]
   repeat' (first|refine qqA ?_ ?_|refine qqB ?_ ?_|refine qqC ?_ ?_|refine qqD ?_ ?_|refine qqE ?_ ?_|refine qqF ?_ ?_)<;>intro h<;>simp only[h,go_sem,reduceIte,yA,yB,yC,yD,yE,yH,reduceCtorEq,yF,yG,yI,h_bigRight,h_Neg,h_Gcd,h_Div,hr,hr2,hl1,hl2,fracE,fracL,zeroF,List.map_nil]
 ·have hr:rightR (s,l)=false:=by simpa using hr
  have hm:newR (s,l) (s2,l2)=(zeroF,1):=by unfold newR;rw[hr,Bool.false_and];rfl
  rw[hm]
  simp only[go_sem,reduceIte,yA,yB,yC,yD,yE,yH,reduceCtorEq,yF,yG,yI,h_bigRight,h_Neg,h_Gcd,h_Div,hr,hl1,hl2,fracE,fracL,zeroF,List.map_nil]
  repeat' (first|refine qqA ?_ ?_|refine qqB ?_ ?_|refine qqC ?_ ?_|refine qqD ?_ ?_|refine qqE ?_ ?_|refine qqF ?_ ?_)<;>intro h<;>simp only[h,go_sem,reduceIte,yA,yB,yC,yD,yE,yH,reduceCtorEq,yF,yG,yI,h_bigRight,h_Neg,h_Gcd,h_Div,hr,hl1,hl2,fracE,fracL,zeroF,List.map_nil]
noncomputable def F_fOf:List Data→Option PRes:=FF (α:=Int × Int) (fun (p,q)=>([.int .i64 p,.int .i64 q]:List Data)) (fun (p,q)=>onlyIf (i64R p∧i64R q) (.same (fracE (newR (encB p) (encB q)))))
theorem F_fOf_inj:∀ a b:Int × Int,(fun (p,q)=>([.int .i64 p,.int .i64 q]:List Data)) a=(fun (p,q)=>([.int .i64 p,.int .i64 q]:List Data)) b→a=b:=by
  rintro⟨p1,q1⟩ ⟨p2,q2⟩ h
  simp only[yM,Data.int.injEq,Data.agg.injEq,Data.sl.injEq,Data.bool.injEq,Data.str.injEq,Data.ptr.injEq,Data.tup.injEq,Prod.mk.injEq,true_and,and_true] at h ⊢
  first | exact h | simpa [Prod.ext_iff,and_assoc] using h | grind
@[go_sem] theorem F_fOf_eq (p:Int) (q:Int) (hc:i64R p∧i64R q):F_fOf [.int .i64 p,.int .i64 q]=some (.same (fracE (newR (encB p) (encB q)))):=(FF_eq F_fOf_inj (p,q)).trans (onlyIf_pos hc _)
theorem w_fOf (T:Tab) (h_bigOf:T id_big_Of=mkE F_bigOf) (h_fNew:T id_frac_New=mkE F_fNew) (p:Int) (q:Int) (hc:i64R p∧i64R q) :
  wp T mf_frac_Of.body (endS mf_frac_Of.res (.same (fracE (newR (encB p) (encB q))))) ⟨initTm [.dat (.int .i64 p),.dat (.int .i64 q)],emp⟩:=by
 refine wp_start ?_
 simp only[mf_frac_Of]
 obtain⟨h1,h2⟩:=hc
 have l1:(encB p).2.length≤1000000:=len_ok (lim_i64 h1)
 have l2:(encB q).2.length≤1000000:=len_ok (lim_i64 h2)
 generalize hP:encB p=P at *
 generalize hQ:encB q=Q at *
 obtain⟨x1,x2⟩:=P
 obtain⟨y1,y2⟩:=Q
 simp only[go_sem,reduceIte,yA,yB,yC,yD,yE,yH,reduceCtorEq,yF,yG,yI,h_bigOf,h_fNew,h1,h2,hP,hQ,l1,l2,bigL,fracE,fracL]
 repeat' (first|refine qqA ?_ ?_|refine qqB ?_ ?_|refine qqC ?_ ?_|refine qqD ?_ ?_|refine qqE ?_ ?_|refine qqF ?_ ?_)<;>intro h<;>simp only[h,go_sem,reduceIte,yA,yB,yC,yD,yE,yH,reduceCtorEq,yF,yG,yI,h_bigOf,h_fNew,h1,h2,hP,hQ,l1,l2,bigL,fracE,fracL]
end Go.Mini
