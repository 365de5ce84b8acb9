/- A part of the proof: MiniFr2, MiniFr3, MiniFr4, MiniKLinear, MiniLin1, MiniFit. -/
import Derived.Test.YtjcpopjafedmpaaGreatM06
import Derived.Test.YtjcpopjafedmpaaGreatM04
set_option linter.unusedSimpArgs false
set_option linter.unusedVariables false
open Nat renaming reduceEqDiff → yA, reduceAdd → yB, reduceSub → yC, reduceMul → yD, reduceLeDiff → yE, reduceLT → yF, reduceBEq → yG
open Bool renaming false_eq_true → yH
open Int renaming reduceEq → yI
open List renaming length_map → yJ, getElem?_map → yK, getElem?_eq_getElem → yL
open List.cons renaming injEq → yM
namespace Go.Mini
open Go
set_option maxRecDepth 10000
set_option maxHeartbeats 2000000
def sumR (a b c d:Raw):Raw × Int :=
 if ((mulR a b).2==0)=true then (if ((mulR c d).2==0)=true then addR (mulR a b).1 (mulR c d).1 else ((0,[]),(mulR c d).2)) else ((0,[]),(mulR a b).2)
theorem keepB_len (z:Int):(keepB z).1.2.length≤1000000:=by
 unfold keepB
 split
 ·exact len_ok (by assumption)
 ·simp
theorem mulR_len (a b:Raw):(mulR a b).1.2.length≤1000000:=by
 unfold mulR
 split
 ·exact keepB_len _
 ·simp
theorem addR_len (a b:Raw):(addR a b).1.2.length≤1000000:=by
 unfold addR
 split
 ·exact keepB_len _
 ·simp
theorem sumR_len (a b c d:Raw):(sumR a b c d).1.2.length≤1000000:=by
 unfold sumR
 split
 ·split
  ·exact addR_len _ _
  ·simp
 ·simp
noncomputable def F_fsum:List Data→Option PRes:=FF (α:=Int × (List Int) × Int × (List Int) × Int × (List Int) × Int × (List Int)) (fun (s,l,s2,l2,s3,l3,s4,l4)=>([.agg [.int .i64 s,.sl (l.map i64L)],.agg [.int .i64 s2,.sl (l2.map i64L)],.agg [.int .i64 s3,.sl (l3.map i64L)],.agg [.int .i64 s4,.sl (l4.map i64L)]]:List Data)) (fun (s,l,s2,l2,s3,l3,s4,l4)=>onlyIf (l.length≤1000000∧l2.length≤1000000∧l3.length≤1000000∧l4.length≤1000000) (.same (bigE (sumR (s,l) (s2,l2) (s3,l3) (s4,l4)))))
theorem F_fsum_inj:∀ a b:Int × (List Int) × Int × (List Int) × Int × (List Int) × Int × (List Int),(fun (s,l,s2,l2,s3,l3,s4,l4)=>([.agg [.int .i64 s,.sl (l.map i64L)],.agg [.int .i64 s2,.sl (l2.map i64L)],.agg [.int .i64 s3,.sl (l3.map i64L)],.agg [.int .i64 s4,.sl (l4.map i64L)]]:List Data)) a=(fun (s,l,s2,l2,s3,l3,s4,l4)=>([.agg [.int .i64 s,.sl (l.map i64L)],.agg [.int .i64 s2,.sl (l2.map i64L)],.agg [.int .i64 s3,.sl (l3.map i64L)],.agg [.int .i64 s4,.sl (l4.map i64L)]]:List Data)) b→a=b:=by
  rintro⟨s1,l1,s21,l21,s31,l31,s41,l41⟩ ⟨s2,l2,s22,l22,s32,l32,s42,l42⟩ h
  simp only[yM,Data.agg.injEq,Data.int.injEq,Data.sl.injEq] at h;exact Prod.ext h.1.1.2 (Prod.ext (map_inj i64L_inj _ _ h.1.2.1) (Prod.ext h.2.1.1.2 (Prod.ext (map_inj i64L_inj _ _ h.2.1.2.1) (Prod.ext h.2.2.1.1.2 (Prod.ext (map_inj i64L_inj _ _ h.2.2.1.2.1) (Prod.ext h.2.2.2.1.1.2 (map_inj i64L_inj _ _ h.2.2.2.1.2.1)))))))
@[go_sem] theorem F_fsum_eq (s:Int) (l:List Int) (s2:Int) (l2:List Int) (s3:Int) (l3:List Int) (s4:Int) (l4:List Int) (hc:l.length≤1000000∧l2.length≤1000000∧l3.length≤1000000∧l4.length≤1000000):F_fsum [.agg [.int .i64 s,.sl (l.map i64L)],.agg [.int .i64 s2,.sl (l2.map i64L)],.agg [.int .i64 s3,.sl (l3.map i64L)],.agg [.int .i64 s4,.sl (l4.map i64L)]]=some (.same (bigE (sumR (s,l) (s2,l2) (s3,l3) (s4,l4)))):=(FF_eq F_fsum_inj (s,l,s2,l2,s3,l3,s4,l4)).trans (onlyIf_pos hc _)
theorem w_fsum (T:Tab) (h_Mul:T id_big_Mul=mkE F_Mul) (h_Add:T id_big_Add=mkE F_Add) (s:Int) (l:List Int) (s2:Int) (l2:List Int) (s3:Int) (l3:List Int) (s4:Int) (l4:List Int) (hc:l.length≤1000000∧l2.length≤1000000∧l3.length≤1000000∧l4.length≤1000000) :
  wp T mf_frac_sum.body (endS mf_frac_sum.res (.same (bigE (sumR (s,l) (s2,l2) (s3,l3) (s4,l4))))) ⟨initTm [.dat (.agg [.int .i64 s,.sl (l.map i64L)]),.dat (.agg [.int .i64 s2,.sl (l2.map i64L)]),.dat (.agg [.int .i64 s3,.sl (l3.map i64L)]),.dat (.agg [.int .i64 s4,.sl (l4.map i64L)])],emp⟩:=by
 refine wp_start ?_
 simp only[mf_frac_sum]
 obtain⟨hl1,hl2,hl3,hl4⟩:=hc
 have m1:=mulR_len (s,l) (s2,l2)
 have m2:=mulR_len (s3,l3) (s4,l4)
 unfold sumR
 generalize hM1:mulR (s,l) (s2,l2)=M1 at *
 generalize hM2:mulR (s3,l3) (s4,l4)=M2 at *
 obtain⟨⟨a1,a2⟩,e1⟩:=M1
 obtain⟨⟨b1,b2⟩,e2⟩:=M2
 rcases h1:(e1==0)
 ·simp only[go_sem,reduceIte,yA,yB,yC,yD,yE,yH,reduceCtorEq,yF,yG,yI,h_Mul,h_Add,hl1,hl2,hl3,hl4,hM1,h1,m1,m2,bigE,bigL,List.map_nil]
  repeat' (first|refine qqA ?_ ?_|refine qqB ?_ ?_|refine qqC ?_ ?_|refine qqD ?_ ?_|refine qqE ?_ ?_|refine qqF ?_ ?_)<;>intro h<;>simp only[h,go_sem,reduceIte,yA,yB,yC,yD,yE,yH,reduceCtorEq,yF,yG,yI,h_Mul,h_Add,hl1,hl2,hl3,hl4,hM1,h1,m1,m2,bigE,bigL,List.map_nil]
 ·have z1:e1=0:=by simpa using h1
  subst z1
  rcases h2:(e2==0)
  ·simp only[go_sem,reduceIte,yA,yB,yC,yD,yE,yH,reduceCtorEq,yF,yG,yI,h_Mul,h_Add,hl1,hl2,hl3,hl4,hM1,hM2,h1,h2,m1,m2,bigE,bigL,List.map_nil]
   repeat' (first|refine qqA ?_ ?_|refine qqB ?_ ?_|refine qqC ?_ ?_|refine qqD ?_ ?_|refine qqE ?_ ?_|refine qqF ?_ ?_)<;>intro h<;>simp only[h,go_sem,reduceIte,yA,yB,yC,yD,yE,yH,reduceCtorEq,yF,yG,yI,h_Mul,h_Add,hl1,hl2,hl3,hl4,hM1,hM2,h1,h2,m1,m2,bigE,bigL,List.map_nil]
  ·have z2:e2=0:=by simpa using h2
   subst z2
   simp only[go_sem,reduceIte,yA,yB,yC,yD,yE,yH,reduceCtorEq,yF,yG,yI,h_Mul,h_Add,hl1,hl2,hl3,hl4,hM1,hM2,h1,m1,m2,bigE,bigL,List.map_nil]
   repeat' (first|refine qqA ?_ ?_|refine qqB ?_ ?_|refine qqC ?_ ?_|refine qqD ?_ ?_|refine qqE ?_ ?_|refine qqF ?_ ?_)<;>intro h<;>simp only[h,go_sem,reduceIte,yA,yB,yC,yD,yE,yH,reduceCtorEq,yF,yG,yI,h_Mul,h_Add,hl1,hl2,hl3,hl4,hM1,hM2,h1,m1,m2,bigE,bigL,List.map_nil]
def quotR (p:Raw × Int) (q:Raw × Int):FRaw × Int:=if (p.2==0)=true then (if (q.2==0)=true then newR p.1 q.1 else (zeroF,6)) else (zeroF,6)
noncomputable def F_fquot:List Data→Option PRes:=FF (α:=Int × (List Int) × Int × Int × (List Int) × Int) (fun (s,l,e,s2,l2,e2)=>([.agg [.int .i64 s,.sl (l.map i64L)],.int .i64 e,.agg [.int .i64 s2,.sl (l2.map i64L)],.int .i64 e2]:List Data)) (fun (s,l,e,s2,l2,e2)=>onlyIf (l.length≤1000000∧l2.length≤1000000) (.same (fracE (quotR ((s,l),e) ((s2,l2),e2)))))
theorem F_fquot_inj:∀ a b:Int × (List Int) × Int × Int × (List Int) × Int,(fun (s,l,e,s2,l2,e2)=>([.agg [.int .i64 s,.sl (l.map i64L)],.int .i64 e,.agg [.int .i64 s2,.sl (l2.map i64L)],.int .i64 e2]:List Data)) a=(fun (s,l,e,s2,l2,e2)=>([.agg [.int .i64 s,.sl (l.map i64L)],.int .i64 e,.agg [.int .i64 s2,.sl (l2.map i64L)],.int .i64 e2]:List Data)) b→a=b:=by
  rintro⟨s1,l1,e1,s21,l21,e21⟩ ⟨s2,l2,e2,s22,l22,e22⟩ h
  simp only[yM,Data.agg.injEq,Data.int.injEq,Data.sl.injEq] at h;exact Prod.ext h.1.1.2 (Prod.ext (map_inj i64L_inj _ _ h.1.2.1) (Prod.ext h.2.1.2 (Prod.ext h.2.2.1.1.2 (Prod.ext (map_inj i64L_inj _ _ h.2.2.1.2.1) h.2.2.2.1.2))))
@[go_sem] theorem F_fquot_eq (s:Int) (l:List Int) (e:Int) (s2:Int) (l2:List Int) (e2:Int) (hc:l.length≤1000000∧l2.length≤1000000):F_fquot [.agg [.int .i64 s,.sl (l.map i64L)],.int .i64 e,.agg [.int .i64 s2,.sl (l2.map i64L)],.int .i64 e2]=some (.same (fracE (quotR ((s,l),e) ((s2,l2),e2)))):=(FF_eq F_fquot_inj (s,l,e,s2,l2,e2)).trans (onlyIf_pos hc _)
theorem w_fquot (T:Tab) (h_fNew:T id_frac_New=mkE F_fNew) (s:Int) (l:List Int) (e:Int) (s2:Int) (l2:List Int) (e2:Int) (hc:l.length≤1000000∧l2.length≤1000000) :
  wp T mf_frac_quotient.body (endS mf_frac_quotient.res (.same (fracE (quotR ((s,l),e) ((s2,l2),e2))))) ⟨initTm [.dat (.agg [.int .i64 s,.sl (l.map i64L)]),.dat (.int .i64 e),.dat (.agg [.int .i64 s2,.sl (l2.map i64L)]),.dat (.int .i64 e2)],emp⟩:=by
 refine wp_start ?_
 simp only[mf_frac_quotient]
 obtain⟨hl1,hl2⟩:=hc
 unfold quotR
 rcases h1:(e==0)
 ·simp only[go_sem,reduceIte,yA,yB,yC,yD,yE,yH,reduceCtorEq,yF,yG,yI,h_fNew,hl1,hl2,h1,fracE,fracL,zeroF,List.map_nil]
  repeat' (first|refine qqA ?_ ?_|refine qqB ?_ ?_|refine qqC ?_ ?_|refine qqD ?_ ?_|refine qqE ?_ ?_|refine qqF ?_ ?_)<;>intro h<;>simp only[h,go_sem,reduceIte,yA,yB,yC,yD,yE,yH,reduceCtorEq,yF,yG,yI,h_fNew,hl1,hl2,h1,fracE,fracL,zeroF,List.map_nil]
 ·have z1:e=0:=by simpa using h1
  subst z1
  rcases h2:(e2==0)
  ·simp only[go_sem,reduceIte,yA,yB,yC,yD,yE,yH,reduceCtorEq,yF,yG,yI,h_fNew,hl1,hl2,h1,h2,fracE,fracL,zeroF,List.map_nil]
   repeat' (first|refine qqA ?_ ?_|refine qqB ?_ ?_|refine qqC ?_ ?_|refine qqD ?_ ?_|refine qqE ?_ ?_|refine qqF ?_ ?_)<;>intro h<;>simp only[h,go_sem,reduceIte,yA,yB,yC,yD,yE,yH,reduceCtorEq,yF,yG,yI,h_fNew,hl1,hl2,h1,h2,fracE,fracL,zeroF,List.map_nil]
  ·have z2:e2=0:=by simpa using h2
   subst z2
   simp only[go_sem,reduceIte,yA,yB,yC,yD,yE,yH,reduceCtorEq,yF,yG,yI,h_fNew,hl1,hl2,h1,fracE,fracL,zeroF,List.map_nil]
   repeat' (first|refine qqA ?_ ?_|refine qqB ?_ ?_|refine qqC ?_ ?_|refine qqD ?_ ?_|refine qqE ?_ ?_|refine qqF ?_ ?_)<;>intro h<;>simp only[h,go_sem,reduceIte,yA,yB,yC,yD,yE,yH,reduceCtorEq,yF,yG,yI,h_fNew,hl1,hl2,h1,fracE,fracL,zeroF,List.map_nil]
def addF (a b:FRaw):FRaw × Int:=if rightF a=true then (if rightF b=true then quotR (sumR a.1 b.2 b.1 a.2) (mulR a.2 b.2) else (zeroF,1)) else (zeroF,1)
def subF (a b:FRaw):FRaw × Int:=if rightF a=true then (if rightF b=true then addF a (negR b.1,b.2) else (zeroF,1)) else (zeroF,1)
def mulF (a b:FRaw):FRaw × Int:=if rightF a=true then (if rightF b=true then quotR (mulR a.1 b.1) (mulR a.2 b.2) else (zeroF,1)) else (zeroF,1)
def divF (a b:FRaw):FRaw × Int:=if rightF a=true then (if rightF b=true then (if (b.1.1==0)=true then (zeroF,15) else quotR (mulR a.1 b.2) (mulR a.2 b.1)) else (zeroF,1)) else (zeroF,1)
theorem negR_len (a:Raw) (h:a.2.length≤1000000):(negR a).2.length≤1000000:=by
 unfold negR
 split
 ·rename_i hr
  obtain⟨z,hz,e⟩:=(rightR_iff _).1 hr
  rw[e,valB_enc]
  exact len_ok (by omega)
 ·simp
noncomputable def F_fAdd:List Data→Option PRes:=FF (α:=Int × (List Int) × Int × (List Int) × Int × (List Int) × Int × (List Int)) (fun (s,l,s2,l2,s3,l3,s4,l4)=>([.agg [.int .i64 s,.sl (l.map i64L),.int .i64 s2,.sl (l2.map i64L)],.agg [.int .i64 s3,.sl (l3.map i64L),.int .i64 s4,.sl (l4.map i64L)]]:List Data)) (fun (s,l,s2,l2,s3,l3,s4,l4)=>onlyIf (l.length≤1000000∧l2.length≤1000000∧l3.length≤1000000∧l4.length≤1000000) (.same (fracE (addF ((s,l),(s2,l2)) ((s3,l3),(s4,l4))))))
theorem F_fAdd_inj:∀ a b:Int × (List Int) × Int × (List Int) × Int × (List Int) × Int × (List Int),(fun (s,l,s2,l2,s3,l3,s4,l4)=>([.agg [.int .i64 s,.sl (l.map i64L),.int .i64 s2,.sl (l2.map i64L)],.agg [.int .i64 s3,.sl (l3.map i64L),.int .i64 s4,.sl (l4.map i64L)]]:List Data)) a=(fun (s,l,s2,l2,s3,l3,s4,l4)=>([.agg [.int .i64 s,.sl (l.map i64L),.int .i64 s2,.sl (l2.map i64L)],.agg [.int .i64 s3,.sl (l3.map i64L),.int .i64 s4,.sl (l4.map i64L)]]:List Data)) b→a=b:=by
  rintro⟨s1,l1,s21,l21,s31,l31,s41,l41⟩ ⟨s2,l2,s22,l22,s32,l32,s42,l42⟩ h
  simp only[yM,Data.agg.injEq,Data.int.injEq,Data.sl.injEq] at h;exact Prod.ext h.1.1.2 (Prod.ext (map_inj i64L_inj _ _ h.1.2.1) (Prod.ext h.1.2.2.1.2 (Prod.ext (map_inj i64L_inj _ _ h.1.2.2.2.1) (Prod.ext h.2.1.1.2 (Prod.ext (map_inj i64L_inj _ _ h.2.1.2.1) (Prod.ext h.2.1.2.2.1.2 (map_inj i64L_inj _ _ h.2.1.2.2.2.1)))))))
@[go_sem] theorem F_fAdd_eq (s:Int) (l:List Int) (s2:Int) (l2:List Int) (s3:Int) (l3:List Int) (s4:Int) (l4:List Int) (hc:l.length≤1000000∧l2.length≤1000000∧l3.length≤1000000∧l4.length≤1000000):F_fAdd [.agg [.int .i64 s,.sl (l.map i64L),.int .i64 s2,.sl (l2.map i64L)],.agg [.int .i64 s3,.sl (l3.map i64L),.int .i64 s4,.sl (l4.map i64L)]]=some (.same (fracE (addF ((s,l),(s2,l2)) ((s3,l3),(s4,l4))))):=(FF_eq F_fAdd_inj (s,l,s2,l2,s3,l3,s4,l4)).trans (onlyIf_pos hc _)
theorem w_fAdd (T:Tab) (h_fRight:T id_frac_Right=mkE F_fRight) (h_fsum:T id_frac_sum=mkE F_fsum) (h_Mul:T id_big_Mul=mkE F_Mul) (h_fquot:T id_frac_quotient=mkE F_fquot) (s:Int) (l:List Int) (s2:Int) (l2:List Int) (s3:Int) (l3:List Int) (s4:Int) (l4:List Int) (hc:l.length≤1000000∧l2.length≤1000000∧l3.length≤1000000∧l4.length≤1000000) :
  wp T mf_frac_Add.body (endS mf_frac_Add.res (.same (fracE (addF ((s,l),(s2,l2)) ((s3,l3),(s4,l4)))))) ⟨initTm [.dat (.agg [.int .i64 s,.sl (l.map i64L),.int .i64 s2,.sl (l2.map i64L)]),.dat (.agg [.int .i64 s3,.sl (l3.map i64L),.int .i64 s4,.sl (l4.map i64L)])],emp⟩:=by
 refine wp_start ?_
 simp only[mf_frac_Add]
 obtain⟨hl1,hl2,hl3,hl4⟩:=hc
 unfold addF
 by_cases hr:rightF ((s,l),(s2,l2))=true
 ·by_cases hr2:rightF ((s3,l3),(s4,l4))=true
  ·have m1:=sumR_len (s,l) (s4,l4) (s3,l3) (s2,l2)
   have m2:=mulR_len (s2,l2) (s4,l4)
   rw[if_pos hr,if_pos hr2]
   dsimp only
   generalize hM1:sumR (s,l) (s4,l4) (s3,l3) (s2,l2)=M1 at *
   generalize hM2:mulR (s2,l2) (s4,l4)=M2 at *
   obtain⟨⟨a1,a2⟩,e1⟩:=M1
   obtain⟨⟨b1,b2⟩,e2⟩:=M2
   simp only[go_sem,reduceIte,yA,yB,yC,yD,yE,yH,reduceCtorEq,yF,yG,yI,h_fRight,h_fsum,h_Mul,h_fquot,hl1,hl2,hl3,hl4,hr,hr2,hM1,hM2,m1,m2,bigE,bigL,fracE,fracL]
   repeat' (first|refine qqA ?_ ?_|refine qqB ?_ ?_|refine qqC ?_ ?_|refine qqD ?_ ?_|refine qqE ?_ ?_|refine qqF ?_ ?_)<;>intro h<;>simp only[h,go_sem,reduceIte,yA,yB,yC,yD,yE,yH,reduceCtorEq,yF,yG,yI,h_fRight,h_fsum,h_Mul,h_fquot,hl1,hl2,hl3,hl4,hr,hr2,hM1,hM2,m1,m2,bigE,bigL,fracE,fracL]
  ·have hr2:rightF ((s3,l3),(s4,l4))=false:=by simpa using hr2
   rw[if_pos hr,if_neg (by simp [hr2])]
   simp only[go_sem,reduceIte,yA,yB,yC,yD,yE,yH,reduceCtorEq,yF,yG,yI,h_fRight,h_fsum,h_Mul,h_fquot,hl1,hl2,hl3,hl4,hr,hr2,fracE,fracL,zeroF,List.map_nil]
   repeat' (first|refine qqA ?_ ?_|refine qqB ?_ ?_|refine qqC ?_ ?_|refine qqD ?_ ?_|refine qqE ?_ ?_|refine qqF ?_ ?_)<;>intro h<;>simp only[h,go_sem,reduceIte,yA,yB,yC,yD,yE,yH,reduceCtorEq,yF,yG,yI,h_fRight,h_fsum,h_Mul,h_fquot,hl1,hl2,hl3,hl4,hr,hr2,fracE,fracL,zeroF,List.map_nil]
 ·have hr:rightF ((s,l),(s2,l2))=false:=by simpa using hr
  rw[if_neg (by simp [hr])]
  simp only[go_sem,reduceIte,yA,yB,yC,yD,yE,yH,reduceCtorEq,yF,yG,yI,h_fRight,h_fsum,h_Mul,h_fquot,hl1,hl2,hl3,hl4,hr,fracE,fracL,zeroF,List.map_nil]
  repeat' (first|refine qqA ?_ ?_|refine qqB ?_ ?_|refine qqC ?_ ?_|refine qqD ?_ ?_|refine qqE ?_ ?_|refine qqF ?_ ?_)<;>intro h<;>simp only[h,go_sem,reduceIte,yA,yB,yC,yD,yE,yH,reduceCtorEq,yF,yG,yI,h_fRight,h_fsum,h_Mul,h_fquot,hl1,hl2,hl3,hl4,hr,fracE,fracL,zeroF,List.map_nil]
noncomputable def F_fSub:List Data→Option PRes:=FF (α:=Int × (List Int) × Int × (List Int) × Int × (List Int) × Int × (List Int)) (fun (s,l,s2,l2,s3,l3,s4,l4)=>([.agg [.int .i64 s,.sl (l.map i64L),.int .i64 s2,.sl (l2.map i64L)],.agg [.int .i64 s3,.sl (l3.map i64L),.int .i64 s4,.sl (l4.map i64L)]]:List Data)) (fun (s,l,s2,l2,s3,l3,s4,l4)=>onlyIf (l.length≤1000000∧l2.length≤1000000∧l3.length≤1000000∧l4.length≤1000000) (.same (fracE (subF ((s,l),(s2,l2)) ((s3,l3),(s4,l4))))))
theorem F_fSub_inj:∀ a b:Int × (List Int) × Int × (List Int) × Int × (List Int) × Int × (List Int),(fun (s,l,s2,l2,s3,l3,s4,l4)=>([.agg [.int .i64 s,.sl (l.map i64L),.int .i64 s2,.sl (l2.map i64L)],.agg [.int .i64 s3,.sl (l3.map i64L),.int .i64 s4,.sl (l4.map i64L)]]:List Data)) a=(fun (s,l,s2,l2,s3,l3,s4,l4)=>([.agg [.int .i64 s,.sl (l.map i64L),.int .i64 s2,.sl (l2.map i64L)],.agg [.int .i64 s3,.sl (l3.map i64L),.int .i64 s4,.sl (l4.map i64L)]]:List Data)) b→a=b:=by
  rintro⟨s1,l1,s21,l21,s31,l31,s41,l41⟩ ⟨s2,l2,s22,l22,s32,l32,s42,l42⟩ h
  simp only[yM,Data.agg.injEq,Data.int.injEq,Data.sl.injEq] at h;exact Prod.ext h.1.1.2 (Prod.ext (map_inj i64L_inj _ _ h.1.2.1) (Prod.ext h.1.2.2.1.2 (Prod.ext (map_inj i64L_inj _ _ h.1.2.2.2.1) (Prod.ext h.2.1.1.2 (Prod.ext (map_inj i64L_inj _ _ h.2.1.2.1) (Prod.ext h.2.1.2.2.1.2 (map_inj i64L_inj _ _ h.2.1.2.2.2.1)))))))
@[go_sem] theorem F_fSub_eq (s:Int) (l:List Int) (s2:Int) (l2:List Int) (s3:Int) (l3:List Int) (s4:Int) (l4:List Int) (hc:l.length≤1000000∧l2.length≤1000000∧l3.length≤1000000∧l4.length≤1000000):F_fSub [.agg [.int .i64 s,.sl (l.map i64L),.int .i64 s2,.sl (l2.map i64L)],.agg [.int .i64 s3,.sl (l3.map i64L),.int .i64 s4,.sl (l4.map i64L)]]=some (.same (fracE (subF ((s,l),(s2,l2)) ((s3,l3),(s4,l4))))):=(FF_eq F_fSub_inj (s,l,s2,l2,s3,l3,s4,l4)).trans (onlyIf_pos hc _)
theorem w_fSub (T:Tab) (h_fRight:T id_frac_Right=mkE F_fRight) (h_Neg:T id_big_Neg=mkE F_Neg) (h_fAdd:T id_frac_Add=mkE F_fAdd) (s:Int) (l:List Int) (s2:Int) (l2:List Int) (s3:Int) (l3:List Int) (s4:Int) (l4:List Int) (hc:l.length≤1000000∧l2.length≤1000000∧l3.length≤1000000∧l4.length≤1000000) :
  wp T mf_frac_Sub.body (endS mf_frac_Sub.res (.same (fracE (subF ((s,l),(s2,l2)) ((s3,l3),(s4,l4)))))) ⟨initTm [.dat (.agg [.int .i64 s,.sl (l.map i64L),.int .i64 s2,.sl (l2.map i64L)]),.dat (.agg [.int .i64 s3,.sl (l3.map i64L),.int .i64 s4,.sl (l4.map i64L)])],emp⟩:=by
 refine wp_start ?_
 simp only[mf_frac_Sub]
 obtain⟨hl1,hl2,hl3,hl4⟩:=hc
 unfold subF
 by_cases hr:rightF ((s,l),(s2,l2))=true
 ·by_cases hr2:rightF ((s3,l3),(s4,l4))=true
  ·have m1:=negR_len (s3,l3) hl3
   rw[if_pos hr,if_pos hr2]
   dsimp only
   generalize hM1:negR (s3,l3)=M1 at *
   obtain⟨a1,a2⟩:=M1
   simp only[go_sem,reduceIte,yA,yB,yC,yD,yE,yH,reduceCtorEq,yF,yG,yI,h_fRight,h_Neg,h_fAdd,hl1,hl2,hl3,hl4,hr,hr2,hM1,m1,bigE,bigL,fracE,fracL]
   repeat' (first|refine qqA ?_ ?_|refine qqB ?_ ?_|refine qqC ?_ ?_|refine qqD ?_ ?_|refine qqE ?_ ?_|refine qqF ?_ ?_)<;>intro h<;>simp only[h,go_sem,reduceIte,yA,yB,yC,yD,yE,yH,reduceCtorEq,yF,yG,yI,h_fRight,h_Neg,h_fAdd,hl1,hl2,hl3,hl4,hr,hr2,hM1,m1,bigE,bigL,fracE,fracL]
  ·have hr2:rightF ((s3,l3),(s4,l4))=false:=by simpa using hr2
   rw[if_pos hr,if_neg (by simp [hr2])]
   simp only[go_sem,reduceIte,yA,yB,yC,yD,yE,yH,reduceCtorEq,yF,yG,yI,h_fRight,h_Neg,h_fAdd,hl1,hl2,hl3,hl4,hr,hr2,fracE,fracL,zeroF,List.map_nil]
   repeat' (first|refine qqA ?_ ?_|refine qqB ?_ ?_|refine qqC ?_ ?_|refine qqD ?_ ?_|refine qqE ?_ ?_|refine qqF ?_ ?_)<;>intro h<;>simp only[h,go_sem,reduceIte,yA,yB,yC,yD,yE,yH,reduceCtorEq,yF,yG,yI,h_fRight,h_Neg,h_fAdd,hl1,hl2,hl3,hl4,hr,hr2,fracE,fracL,zeroF,List.map_nil]
 ·have hr:rightF ((s,l),(s2,l2))=false:=by simpa using hr
  rw[if_neg (by simp [hr])]
  simp only[go_sem,reduceIte,yA,yB,yC,yD,yE,yH,reduceCtorEq,yF,yG,yI,h_fRight,h_Neg,h_fAdd,hl1,hl2,hl3,hl4,hr,fracE,fracL,zeroF,List.map_nil]
  repeat' (first|refine qqA ?_ ?_|refine qqB ?_ ?_|refine qqC ?_ ?_|refine qqD ?_ ?_|refine qqE ?_ ?_|refine qqF ?_ ?_)<;>intro h<;>simp only[h,go_sem,reduceIte,yA,yB,yC,yD,yE,yH,reduceCtorEq,yF,yG,yI,h_fRight,h_Neg,h_fAdd,hl1,hl2,hl3,hl4,hr,fracE,fracL,zeroF,List.map_nil]
noncomputable def F_fMul:List Data→Option PRes:=FF (α:=Int × (List Int) × Int × (List Int) × Int × (List Int) × Int × (List Int)) (fun (s,l,s2,l2,s3,l3,s4,l4)=>([.agg [.int .i64 s,.sl (l.map i64L),.int .i64 s2,.sl (l2.map i64L)],.agg [.int .i64 s3,.sl (l3.map i64L),.int .i64 s4,.sl (l4.map i64L)]]:List Data)) (fun (s,l,s2,l2,s3,l3,s4,l4)=>onlyIf (l.length≤1000000∧l2.length≤1000000∧l3.length≤1000000∧l4.length≤1000000) (.same (fracE (mulF ((s,l),(s2,l2)) ((s3,l3),(s4,l4))))))
theorem F_fMul_inj:∀ a b:Int × (List Int) × Int × (List Int) × Int × (List Int) × Int × (List Int),(fun (s,l,s2,l2,s3,l3,s4,l4)=>([.agg [.int .i64 s,.sl (l.map i64L),.int .i64 s2,.sl (l2.map i64L)],.agg [.int .i64 s3,.sl (l3.map i64L),.int .i64 s4,.sl (l4.map i64L)]]:List Data)) a=(fun (s,l,s2,l2,s3,l3,s4,l4)=>([.agg [.int .i64 s,.sl (l.map i64L),.int .i64 s2,.sl (l2.map i64L)],.agg [.int .i64 s3,.sl (l3.map i64L),.int .i64 s4,.sl (l4.map i64L)]]:List Data)) b→a=b:=by
  rintro⟨s1,l1,s21,l21,s31,l31,s41,l41⟩ ⟨s2,l2,s22,l22,s32,l32,s42,l42⟩ h
  simp only[yM,Data.agg.injEq,Data.int.injEq,Data.sl.injEq] at h;exact Prod.ext h.1.1.2 (Prod.ext (map_inj i64L_inj _ _ h.1.2.1) (Prod.ext h.1.2.2.1.2 (Prod.ext (map_inj i64L_inj _ _ h.1.2.2.2.1) (Prod.ext h.2.1.1.2 (Prod.ext (map_inj i64L_inj _ _ h.2.1.2.1) (Prod.ext h.2.1.2.2.1.2 (map_inj i64L_inj _ _ h.2.1.2.2.2.1)))))))
@[go_sem] theorem F_fMul_eq (s:Int) (l:List Int) (s2:Int) (l2:List Int) (s3:Int) (l3:List Int) (s4:Int) (l4:List Int) (hc:l.length≤1000000∧l2.length≤1000000∧l3.length≤1000000∧l4.length≤1000000):F_fMul [.agg [.int .i64 s,.sl (l.map i64L),.int .i64 s2,.sl (l2.map i64L)],.agg [.int .i64 s3,.sl (l3.map i64L),.int .i64 s4,.sl (l4.map i64L)]]=some (.same (fracE (mulF ((s,l),(s2,l2)) ((s3,l3),(s4,l4))))):=(FF_eq F_fMul_inj (s,l,s2,l2,s3,l3,s4,l4)).trans (onlyIf_pos hc _)
theorem w_fMul (T:Tab) (h_fRight:T id_frac_Right=mkE F_fRight) (h_Mul:T id_big_Mul=mkE F_Mul) (h_fquot:T id_frac_quotient=mkE F_fquot) (s:Int) (l:List Int) (s2:Int) (l2:List Int) (s3:Int) (l3:List Int) (s4:Int) (l4:List Int) (hc:l.length≤1000000∧l2.length≤1000000∧l3.length≤1000000∧l4.length≤1000000) :
  wp T mf_frac_Mul.body (endS mf_frac_Mul.res (.same (fracE (mulF ((s,l),(s2,l2)) ((s3,l3),(s4,l4)))))) ⟨initTm [.dat (.agg [.int .i64 s,.sl (l.map i64L),.int .i64 s2,.sl (l2.map i64L)]),.dat (.agg [.int .i64 s3,.sl (l3.map i64L),.int .i64 s4,.sl (l4.map i64L)])],emp⟩:=by
 refine wp_start ?_
 simp only[mf_frac_Mul]
 obtain⟨hl1,hl2,hl3,hl4⟩:=hc
 unfold mulF
 by_cases hr:rightF ((s,l),(s2,l2))=true
 ·by_cases hr2:rightF ((s3,l3),(s4,l4))=true
  ·have m1:=mulR_len (s,l) (s3,l3)
   have m2:=mulR_len (s2,l2) (s4,l4)
   rw[if_pos hr,if_pos hr2]
   dsimp only
   generalize hM1:mulR (s,l) (s3,l3)=M1 at *
   generalize hM2:mulR (s2,l2) (s4,l4)=M2 at *
   obtain⟨⟨a1,a2⟩,e1⟩:=M1
   obtain⟨⟨b1,b2⟩,e2⟩:=M2
   simp only[go_sem,reduceIte,yA,yB,yC,yD,yE,yH,reduceCtorEq,yF,yG,yI,h_fRight,h_Mul,h_fquot,hl1,hl2,hl3,hl4,hr,hr2,hM1,hM2,m1,m2,bigE,bigL,fracE,fracL]
   repeat' (first|refine qqA ?_ ?_|refine qqB ?_ ?_|refine qqC ?_ ?_|refine qqD ?_ ?_|refine qqE ?_ ?_|refine qqF ?_ ?_)<;>intro h<;>simp only[h,go_sem,reduceIte,yA,yB,yC,yD,yE,yH,reduceCtorEq,yF,yG,yI,h_fRight,h_Mul,h_fquot,hl1,hl2,hl3,hl4,hr,hr2,hM1,hM2,m1,m2,bigE,bigL,fracE,fracL]
  ·have hr2:rightF ((s3,l3),(s4,l4))=false:=by simpa using hr2
   rw[if_pos hr,if_neg (by simp [hr2])]
   simp only[go_sem,reduceIte,yA,yB,yC,yD,yE,yH,reduceCtorEq,yF,yG,yI,h_fRight,h_Mul,h_fquot,hl1,hl2,hl3,hl4,hr,hr2,fracE,fracL,zeroF,List.map_nil]
   repeat' (first|refine qqA ?_ ?_|refine qqB ?_ ?_|refine qqC ?_ ?_|refine qqD ?_ ?_|refine qqE ?_ ?_|refine qqF ?_ ?_)<;>intro h<;>simp only[h,go_sem,reduceIte,yA,yB,yC,yD,yE,yH,reduceCtorEq,yF,yG,yI,h_fRight,h_Mul,h_fquot,hl1,hl2,hl3,hl4,hr,hr2,fracE,fracL,zeroF,List.map_nil]
 ·have hr:rightF ((s,l),(s2,l2))=false:=by simpa using hr
  rw[if_neg (by simp [hr])]
  simp only[go_sem,reduceIte,yA,yB,yC,yD,yE,yH,reduceCtorEq,yF,yG,yI,h_fRight,h_Mul,h_fquot,hl1,hl2,hl3,hl4,hr,fracE,fracL,zeroF,List.map_nil]
  repeat' (first|refine qqA ?_ ?_|refine qqB ?_ ?_|refine qqC ?_ ?_|refine qqD ?_ ?_|refine qqE ?_ ?_|refine qqF ?_ ?_)<;>intro h<;>simp only[h,go_sem,reduceIte,yA,yB,yC,yD,yE,yH,reduceCtorEq,yF,yG,yI,h_fRight,h_Mul,h_fquot,hl1,hl2,hl3,hl4,hr,fracE,fracL,zeroF,List.map_nil]
noncomputable def F_fDiv:List Data→Option PRes:=FF (α:=Int × (List Int) × Int × (List Int) × Int × (List Int) × Int × (List Int)) (fun (s,l,s2,l2,s3,l3,s4,l4)=>([.agg [.int .i64 s,.sl (l.map i64L),.int .i64 s2,.sl (l2.map i64L)],.agg [.int .i64 s3,.sl (l3.map i64L),.int .i64 s4,.sl (l4.map i64L)]]:List Data)) (fun (s,l,s2,l2,s3,l3,s4,l4)=>onlyIf (l.length≤1000000∧l2.length≤1000000∧l3.length≤1000000∧l4.length≤1000000) (.same (fracE (divF ((s,l),(s2,l2)) ((s3,l3),(s4,l4))))))
theorem F_fDiv_inj:∀ a b:Int × (List Int) × Int × (List Int) × Int × (List Int) × Int × (List Int),(fun (s,l,s2,l2,s3,l3,s4,l4)=>([.agg [.int .i64 s,.sl (l.map i64L),.int .i64 s2,.sl (l2.map i64L)],.agg [.int .i64 s3,.sl (l3.map i64L),.int .i64 s4,.sl (l4.map i64L)]]:List Data)) a=(fun (s,l,s2,l2,s3,l3,s4,l4)=>([.agg [.int .i64 s,.sl (l.map i64L),.int .i64 s2,.sl (l2.map i64L)],.agg [.int .i64 s3,.sl (l3.map i64L),.int .i64 s4,.sl (l4.map i64L)]]:List Data)) b→a=b:=by
  rintro⟨s1,l1,s21,l21,s31,l31,s41,l41⟩ ⟨s2,l2,s22,l22,s32,l32,s42,l42⟩ h
  simp only[yM,Data.agg.injEq,Data.int.injEq,Data.sl.injEq] at h;exact Prod.ext h.1.1.2 (Prod.ext (map_inj i64L_inj _ _ h.1.2.1) (Prod.ext h.1.2.2.1.2 (Prod.ext (map_inj i64L_inj _ _ h.1.2.2.2.1) (Prod.ext h.2.1.1.2 (Prod.ext (map_inj i64L_inj _ _ h.2.1.2.1) (Prod.ext h.2.1.2.2.1.2 (map_inj i64L_inj _ _ h.2.1.2.2.2.1)))))))
@[go_sem] theorem F_fDiv_eq (s:Int) (l:List Int) (s2:Int) (l2:List Int) (s3:Int) (l3:List Int) (s4:Int) (l4:List Int) (hc:l.length≤1000000∧l2.length≤1000000∧l3.length≤1000000∧l4.length≤1000000):F_fDiv [.agg [.int .i64 s,.sl (l.map i64L),.int .i64 s2,.sl (l2.map i64L)],.agg [.int .i64 s3,.sl (l3.map i64L),.int .i64 s4,.sl (l4.map i64L)]]=some (.same (fracE (divF ((s,l),(s2,l2)) ((s3,l3),(s4,l4))))):=(FF_eq F_fDiv_inj (s,l,s2,l2,s3,l3,s4,l4)).trans (onlyIf_pos hc _)
theorem w_fDiv (T:Tab) (h_fRight:T id_frac_Right=mkE F_fRight) (h_Mul:T id_big_Mul=mkE F_Mul) (h_fquot:T id_frac_quotient=mkE F_fquot) (s:Int) (l:List Int) (s2:Int) (l2:List Int) (s3:Int) (l3:List Int) (s4:Int) (l4:List Int) (hc:l.length≤1000000∧l2.length≤1000000∧l3.length≤1000000∧l4.length≤1000000) :
  wp T mf_frac_Div.body (endS mf_frac_Div.res (.same (fracE (divF ((s,l),(s2,l2)) ((s3,l3),(s4,l4)))))) ⟨initTm [.dat (.agg [.int .i64 s,.sl (l.map i64L),.int .i64 s2,.sl (l2.map i64L)]),.dat (.agg [.int .i64 s3,.sl (l3.map i64L),.int .i64 s4,.sl (l4.map i64L)])],emp⟩:=by
 refine wp_start ?_
 simp only[mf_frac_Div]
 obtain⟨hl1,hl2,hl3,hl4⟩:=hc
 unfold divF
 by_cases hr:rightF ((s,l),(s2,l2))=true
 ·by_cases hr2:rightF ((s3,l3),(s4,l4))=true
  ·rw[if_pos hr,if_pos hr2]
   dsimp only
   rcases h0:(s3==0)
   ·have m1:=mulR_len (s,l) (s4,l4)
    have m2:=mulR_len (s2,l2) (s3,l3)
    rw[if_neg (by simp)]
    generalize hM1:mulR (s,l) (s4,l4)=M1 at *
    generalize hM2:mulR (s2,l2) (s3,l3)=M2 at *
    obtain⟨⟨a1,a2⟩,e1⟩:=M1
    obtain⟨⟨b1,b2⟩,e2⟩:=M2
    simp only[go_sem,reduceIte,yA,yB,yC,yD,yE,yH,reduceCtorEq,yF,yG,yI,h_fRight,h_Mul,h_fquot,hl1,hl2,hl3,hl4,hr,hr2,h0,hM1,hM2,m1,m2,bigE,bigL,fracE,fracL]
    repeat' (first|refine qqA ?_ ?_|refine qqB ?_ ?_|refine qqC ?_ ?_|refine qqD ?_ ?_|refine qqE ?_ ?_|refine qqF ?_ ?_)<;>intro h<;>simp only[h,go_sem,reduceIte,yA,yB,yC,yD,yE,yH,reduceCtorEq,yF,yG,yI,h_fRight,h_Mul,h_fquot,hl1,hl2,hl3,hl4,hr,hr2,h0,hM1,hM2,m1,m2,bigE,bigL,fracE,fracL]
   ·rw[if_pos rfl]
    simp only[go_sem,reduceIte,yA,yB,yC,yD,yE,yH,reduceCtorEq,yF,yG,yI,h_fRight,h_Mul,h_fquot,hl1,hl2,hl3,hl4,hr,hr2,h0,fracE,fracL,zeroF,List.map_nil]
    repeat' (first|refine qqA ?_ ?_|refine qqB ?_ ?_|refine qqC ?_ ?_|refine qqD ?_ ?_|refine qqE ?_ ?_|refine qqF ?_ ?_)<;>intro h<;>simp only[h,go_sem,reduceIte,yA,yB,yC,yD,yE,yH,reduceCtorEq,yF,yG,yI,h_fRight,h_Mul,h_fquot,hl1,hl2,hl3,hl4,hr,hr2,h0,fracE,fracL,zeroF,List.map_nil]
  ·have hr2:rightF ((s3,l3),(s4,l4))=false:=by simpa using hr2
   rw[if_pos hr,if_neg (by simp [hr2])]
   simp only[go_sem,reduceIte,yA,yB,yC,yD,yE,yH,reduceCtorEq,yF,yG,yI,h_fRight,h_Mul,h_fquot,hl1,hl2,hl3,hl4,hr,hr2,fracE,fracL,zeroF,List.map_nil]
   repeat' (first|refine qqA ?_ ?_|refine qqB ?_ ?_|refine qqC ?_ ?_|refine qqD ?_ ?_|refine qqE ?_ ?_|refine qqF ?_ ?_)<;>intro h<;>simp only[h,go_sem,reduceIte,yA,yB,yC,yD,yE,yH,reduceCtorEq,yF,yG,yI,h_fRight,h_Mul,h_fquot,hl1,hl2,hl3,hl4,hr,hr2,fracE,fracL,zeroF,List.map_nil]
 ·have hr:rightF ((s,l),(s2,l2))=false:=by simpa using hr
  rw[if_neg (by simp [hr])]
  simp only[go_sem,reduceIte,yA,yB,yC,yD,yE,yH,reduceCtorEq,yF,yG,yI,h_fRight,h_Mul,h_fquot,hl1,hl2,hl3,hl4,hr,fracE,fracL,zeroF,List.map_nil]
  repeat' (first|refine qqA ?_ ?_|refine qqB ?_ ?_|refine qqC ?_ ?_|refine qqD ?_ ?_|refine qqE ?_ ?_|refine qqF ?_ ?_)<;>intro h<;>simp only[h,go_sem,reduceIte,yA,yB,yC,yD,yE,yH,reduceCtorEq,yF,yG,yI,h_fRight,h_Mul,h_fquot,hl1,hl2,hl3,hl4,hr,fracE,fracL,zeroF,List.map_nil]
end Go.Mini
namespace Go.Mini
open Go
set_option maxRecDepth 10000
set_option maxHeartbeats 2000000
def keepF (c:Bool) (v:Rat):FRaw × Int:=if c=true then (encR v,0) else (zeroF,6)
def okZ (z:Int):Bool:=decide (z.natAbs<LIM)
def addOK (x y:Rat):Bool:=okZ (x.num*y.den)&&(okZ (y.num*x.den)&&(okZ (x.num*y.den+y.num*x.den)&&okZ ((x.den:Int)*y.den)))
def mulOK (x y:Rat):Bool:=okZ (x.num*y.num)&&okZ ((x.den:Int)*y.den)
def divOK (x y:Rat):Bool:=okZ (x.num*y.den)&&okZ ((x.den:Int)*y.num)
theorem keepB_yes {z:Int} (h:okZ z=true):keepB z=(encB z,0):=if_pos (by simpa [okZ] using h)
theorem keepB_no {z:Int} (h:okZ z=false):keepB z=((0,[]),6):=if_neg (by simpa [okZ] using h)
theorem okZ_lt {z:Int} (h:okZ z=true):z.natAbs<LIM:=by simpa [okZ] using h
theorem sumR_enc {a b c d:Int} (ha:a.natAbs<LIM) (hb:b.natAbs<LIM) (hc:c.natAbs<LIM) (hd:d.natAbs<LIM) :
  sumR (encB a) (encB b) (encB c) (encB d)=if (okZ (a*b)&&(okZ (c*d)&&okZ (a*b+c*d)))=true then (encB (a*b+c*d),0) else ((0,[]),6):=by
 unfold sumR
 rw[mulR_enc ha hb,mulR_enc hc hd]
 rcases h1:okZ (a*b)
 ·rw[keepB_no h1];rfl
 ·rw[keepB_yes h1]
  rcases h2:okZ (c*d)
  ·rw[keepB_no h2];rfl
  ·rw[keepB_yes h2]
   show addR (encB (a*b)) (encB (c*d))=_
   rw[addR_enc (okZ_lt h1) (okZ_lt h2)]
   rcases h3:okZ (a*b+c*d)
   ·rw[keepB_no h3];rfl
   ·rw[keepB_yes h3];rfl
theorem add_divInt (x y:Rat):Rat.divInt (x.num*y.den+y.num*x.den) ((x.den:Int)*y.den)=x+y:=by
 rw[←Rat.divInt_add_divInt _ _ (by have:=den_pos x;omega) (by have:=den_pos y;omega),Rat.num_divInt_den,Rat.num_divInt_den]
theorem mul_divInt (x y:Rat):Rat.divInt (x.num*y.num) ((x.den:Int)*y.den)=x*y:=by
 rw[←Rat.divInt_mul_divInt,Rat.num_divInt_den,Rat.num_divInt_den]
theorem div_divInt (x y:Rat):Rat.divInt (x.num*y.den) ((x.den:Int)*y.num)=x / y:=by
 rw[←Rat.divInt_mul_divInt,Rat.num_divInt_den,←Rat.inv_divInt,Rat.num_divInt_den]
 rfl
theorem den_ne (x:Rat):(x.den:Int)≠0:=by have:=den_pos x;omega
theorem addF_enc {x y:Rat} (hx:limR x) (hy:limR y):addF (encR x) (encR y)=keepF (addOK x y) (x+y):=by
 unfold addF
 rw[if_pos (rightF_enc hx),if_pos (rightF_enc hy)]
 show quotR (sumR (encB x.num) (encB y.den) (encB y.num) (encB x.den)) (mulR (encB x.den) (encB y.den))=_
 rw[sumR_enc hx.1 (limD hy) hy.1 (limD hx),mulR_enc (limD hx) (limD hy)]
 unfold addOK
 rcases h1:okZ (x.num*y.den)
 ·rfl
 ·rcases h2:okZ (y.num*x.den)
  ·rfl
  ·rcases h3:okZ (x.num*y.den+y.num*x.den)
   ·rfl
   ·rcases h4:okZ ((x.den:Int)*y.den)
    ·rw[keepB_no h4];rfl
    ·rw[keepB_yes h4]
     show newR (encB (x.num*y.den+y.num*x.den)) (encB ((x.den:Int)*y.den))=(encR (x+y),0)
     rw[newR_enc (okZ_lt h3) (okZ_lt h4) (Int.mul_ne_zero (den_ne x) (den_ne y)),add_divInt]
theorem limR_neg {x:Rat} (h:limR x):limR (-x):=⟨by rw[Rat.neg_num];have:=h.1;omega,by rw[Rat.neg_den];exact h.2⟩
theorem subF_enc {x y:Rat} (hx:limR x) (hy:limR y):subF (encR x) (encR y)=keepF (addOK x (-y)) (x-y):=by
 unfold subF
 rw[if_pos (rightF_enc hx),if_pos (rightF_enc hy)]
 have:(negR (encR y).1,(encR y).2)=encR (-y):=by
  unfold encR
  have:negR (encB y.num)=encB (-y.num):=by unfold negR;rw[if_pos (right_enc hy.1),valB_enc]
  dsimp only
  rw[this];rfl
 rw[this,addF_enc hx (limR_neg hy),Rat.sub_eq_add_neg]
theorem mulF_enc {x y:Rat} (hx:limR x) (hy:limR y):mulF (encR x) (encR y)=keepF (mulOK x y) (x*y):=by
 unfold mulF
 rw[if_pos (rightF_enc hx),if_pos (rightF_enc hy)]
 show quotR (mulR (encB x.num) (encB y.num)) (mulR (encB x.den) (encB y.den))=_
 rw[mulR_enc hx.1 hy.1,mulR_enc (limD hx) (limD hy)]
 unfold mulOK
 rcases h1:okZ (x.num*y.num)
 ·rw[keepB_no h1];rfl
 ·rw[keepB_yes h1]
  rcases h4:okZ ((x.den:Int)*y.den)
  ·rw[keepB_no h4];rfl
  ·rw[keepB_yes h4]
   show newR (encB (x.num*y.num)) (encB ((x.den:Int)*y.den))=(encR (x*y),0)
   rw[newR_enc (okZ_lt h1) (okZ_lt h4) (Int.mul_ne_zero (den_ne x) (den_ne y)),mul_divInt]
theorem divF_enc {x y:Rat} (hx:limR x) (hy:limR y) (h0:y≠0):divF (encR x) (encR y)=keepF (divOK x y) (x / y):=by
 unfold divF
 rw[if_pos (rightF_enc hx),if_pos (rightF_enc hy)]
 have hn:y.num≠0:=fun h=>h0 (Rat.num_eq_zero.1 h)
 have:((encR y).1.1==0)=false:=by
  show (y.num.sign==0)=false
  simpa using hn
 rw[this,if_neg (by simp)]
 show quotR (mulR (encB x.num) (encB y.den)) (mulR (encB x.den) (encB y.num))=_
 rw[mulR_enc hx.1 (limD hy),mulR_enc (limD hx) hy.1]
 unfold divOK
 rcases h1:okZ (x.num*y.den)
 ·rw[keepB_no h1];rfl
 ·rw[keepB_yes h1]
  rcases h4:okZ ((x.den:Int)*y.num)
  ·rw[keepB_no h4];rfl
  ·rw[keepB_yes h4]
   show newR (encB (x.num*y.den)) (encB ((x.den:Int)*y.num))=(encR (x / y),0)
   rw[newR_enc (okZ_lt h1) (okZ_lt h4) (Int.mul_ne_zero (den_ne x) hn),div_divInt]
theorem divF_zero {x y:Rat} (hx:limR x) (hy:limR y) (h0:y=0):divF (encR x) (encR y)=(zeroF,15):=by
 unfold divF
 rw[if_pos (rightF_enc hx),if_pos (rightF_enc hy),h0]
 rfl
/-- What is kept is within the limits. -/
theorem add_lim {x y:Rat} (h:addOK x y=true):limR (x+y):=by
 unfold addOK at h
 simp only[Bool.and_eq_true] at h
 rw[←add_divInt]
 exact divInt_lim (okZ_lt h.2.2.1) (okZ_lt h.2.2.2)
theorem sub_lim {x y:Rat} (h:addOK x (-y)=true):limR (x-y):=by rw[Rat.sub_eq_add_neg];exact add_lim h
theorem mul_lim {x y:Rat} (h:mulOK x y=true):limR (x*y):=by
 unfold mulOK at h
 simp only[Bool.and_eq_true] at h
 rw[←mul_divInt]
 exact divInt_lim (okZ_lt h.1) (okZ_lt h.2)
theorem div_lim {x y:Rat} (h:divOK x y=true):limR (x / y):=by
 unfold divOK at h
 simp only[Bool.and_eq_true] at h
 rw[←div_divInt]
 exact divInt_lim (okZ_lt h.1) (okZ_lt h.2)
/-! ### Compare -/
/-- How two fractions stand to each other. -/
def cmpQ (x y:Rat):Int:=(x.num*y.den-y.num*x.den).sign
def cmpF (a b:FRaw):Int:=if rightF a=true then (if rightF b=true then (valB a.1*valB b.2-valB b.1*valB a.2).sign else 0) else 0
theorem cmpF_enc {x y:Rat} (hx:limR x) (hy:limR y):cmpF (encR x) (encR y)=cmpQ x y:=by
 unfold cmpF
 rw[if_pos (rightF_enc hx),if_pos (rightF_enc hy)]
 unfold encR cmpQ
 rw[valB_enc,valB_enc,valB_enc,valB_enc]
theorem cmpQ_zero {x y:Rat}:cmpQ x y=0↔x=y:=by
 unfold cmpQ
 rw[Int.sign_eq_zero_iff_zero,Rat.eq_iff_mul_eq_mul]
 omega
theorem fmod_bnd {p q:Int} (hq:0<q):0≤p.fmod q∧p.fmod q<q:=⟨Int.fmod_nonneg_of_pos _ hq,Int.fmod_lt_of_pos _ hq⟩
theorem cmp_lt {p q r s:Int} (hq:0<q) (hs:0<s) (h:p.fdiv q<r.fdiv s):p*s-r*q<0:=by
 have e1:=Int.mul_fdiv_add_fmod p q
 have e2:=Int.mul_fdiv_add_fmod r s
 have b1:=fmod_bnd (p:=p) hq
 have b2:=fmod_bnd (p:=r) hs
 generalize p.fdiv q=x at *
 generalize r.fdiv s=y at *
 generalize p.fmod q=u at *
 generalize r.fmod s=v at *
 subst e1 e2
 have h1:q*s*(x+1)≤q*s*y:=Int.mul_le_mul_of_nonneg_left (by omega) (Int.le_of_lt (Int.mul_pos hq hs))
 have h2:u*s<q*s:=Int.mul_lt_mul_of_pos_right b1.2 hs
 have h3:0≤v*q:=Int.mul_nonneg b2.1 (by omega)
 have e3:(q*x+u)*s-(s*y+v)*q=q*s*(x+1)-q*s*y+(u*s-q*s)-v*q:=by grind
 omega
theorem cmp_eq {p q r s:Int} (h:p.fdiv q=r.fdiv s):p*s-r*q=p.fmod q*s-r.fmod s*q:=by
 have e1:=Int.mul_fdiv_add_fmod p q
 have e2:=Int.mul_fdiv_add_fmod r s
 rw[h] at e1
 generalize r.fdiv s=y at *
 generalize p.fmod q=u at *
 generalize r.fmod s=v at *
 subst e1 e2
 grind
theorem sign_swap (a b:Int):(a-b).sign = -(b-a).sign:=by rw[←Int.sign_neg];congr 1;omega
end Go.Mini
namespace Go.Mini
open Go
set_option maxRecDepth 10000
set_option maxHeartbeats 2000000
theorem divR_pair {p q:Int} (hp:p.natAbs<LIM) (hq:q.natAbs<LIM) (h0:0<q) :
  divR (p.sign,dg p.natAbs) (q.sign,dg q.natAbs)=(((p.fdiv q).sign,dg (p.fdiv q).natAbs),((p.fmod q).sign,dg (p.fmod q).natAbs),0):=divR_enc hp hq (by omega)
noncomputable def F_fCompare:List Data→Option PRes:=FF (α:=Int × (List Int) × Int × (List Int) × Int × (List Int) × Int × (List Int)) (fun (s,l,s2,l2,s3,l3,s4,l4)=>([.agg [.int .i64 s,.sl (l.map i64L),.int .i64 s2,.sl (l2.map i64L)],.agg [.int .i64 s3,.sl (l3.map i64L),.int .i64 s4,.sl (l4.map i64L)]]:List Data)) (fun (s,l,s2,l2,s3,l3,s4,l4)=>onlyIf (l.length≤1000000∧l2.length≤1000000∧l3.length≤1000000∧l4.length≤1000000) (.same (.int .i64 (cmpF ((s,l),(s2,l2)) ((s3,l3),(s4,l4))))))
theorem F_fCompare_inj:∀ a b:Int × (List Int) × Int × (List Int) × Int × (List Int) × Int × (List Int),(fun (s,l,s2,l2,s3,l3,s4,l4)=>([.agg [.int .i64 s,.sl (l.map i64L),.int .i64 s2,.sl (l2.map i64L)],.agg [.int .i64 s3,.sl (l3.map i64L),.int .i64 s4,.sl (l4.map i64L)]]:List Data)) a=(fun (s,l,s2,l2,s3,l3,s4,l4)=>([.agg [.int .i64 s,.sl (l.map i64L),.int .i64 s2,.sl (l2.map i64L)],.agg [.int .i64 s3,.sl (l3.map i64L),.int .i64 s4,.sl (l4.map i64L)]]:List Data)) b→a=b:=by
  rintro⟨s1,l1,s21,l21,s31,l31,s41,l41⟩ ⟨s2,l2,s22,l22,s32,l32,s42,l42⟩ h
  simp only[yM,Data.agg.injEq,Data.int.injEq,Data.sl.injEq] at h;exact Prod.ext h.1.1.2 (Prod.ext (map_inj i64L_inj _ _ h.1.2.1) (Prod.ext h.1.2.2.1.2 (Prod.ext (map_inj i64L_inj _ _ h.1.2.2.2.1) (Prod.ext h.2.1.1.2 (Prod.ext (map_inj i64L_inj _ _ h.2.1.2.1) (Prod.ext h.2.1.2.2.1.2 (map_inj i64L_inj _ _ h.2.1.2.2.2.1)))))))
@[go_sem] theorem F_fCompare_eq (s:Int) (l:List Int) (s2:Int) (l2:List Int) (s3:Int) (l3:List Int) (s4:Int) (l4:List Int) (hc:l.length≤1000000∧l2.length≤1000000∧l3.length≤1000000∧l4.length≤1000000):F_fCompare [.agg [.int .i64 s,.sl (l.map i64L),.int .i64 s2,.sl (l2.map i64L)],.agg [.int .i64 s3,.sl (l3.map i64L),.int .i64 s4,.sl (l4.map i64L)]]=some (.same (.int .i64 (cmpF ((s,l),(s2,l2)) ((s3,l3),(s4,l4))))):=(FF_eq F_fCompare_inj (s,l,s2,l2,s3,l3,s4,l4)).trans (onlyIf_pos hc _)
theorem w_fCompare (T:Tab) (h_fRight:T id_frac_Right=mkE F_fRight) (h_Div:T id_big_Div=mkE F_Div) (h_Compare:T id_big_Compare=mkE F_Compare) (s:Int) (l:List Int) (s2:Int) (l2:List Int) (s3:Int) (l3:List Int) (s4:Int) (l4:List Int) (hc:l.length≤1000000∧l2.length≤1000000∧l3.length≤1000000∧l4.length≤1000000) :
  wp T mf_frac_Compare.body (endS mf_frac_Compare.res (.same (.int .i64 (cmpF ((s,l),(s2,l2)) ((s3,l3),(s4,l4)))))) ⟨initTm [.dat (.agg [.int .i64 s,.sl (l.map i64L),.int .i64 s2,.sl (l2.map i64L)]),.dat (.agg [.int .i64 s3,.sl (l3.map i64L),.int .i64 s4,.sl (l4.map i64L)])],emp⟩:=by
 refine wp_start ?_
 simp only[mf_frac_Compare]
 obtain⟨hl1,hl2,hl3,hl4⟩:=hc
 by_cases hr:rightF ((s,l),(s2,l2))=true
 ·by_cases hr2:rightF ((s3,l3),(s4,l4))=true
  ·obtain⟨x,hx,e⟩:=(rightF_iff _).1 hr
   obtain⟨y,hy,e2⟩:=(rightF_iff _).1 hr2
   have hm:cmpF ((s,l),(s2,l2)) ((s3,l3),(s4,l4))=cmpQ x y:=by rw[e,e2,cmpF_enc hx hy]
   rw[hm]
   clear hm
   have ea:(s,l)=encB x.num:=congrArg Prod.fst e
   have eb:(s2,l2)=encB x.den:=congrArg Prod.snd e
   have ec:(s3,l3)=encB y.num:=congrArg Prod.fst e2
   have ed:(s4,l4)=encB y.den:=congrArg Prod.snd e2
   clear e e2
   have hxd:=limD hx
   have hyd:=limD hy
   have hx0:=den_pos x
   have hy0:=den_pos y
   have hxn:=hx.1
   have hyn:=hy.1
   unfold cmpQ
   generalize x.num=P at *
   generalize (x.den:Int)=Q at *
   generalize y.num=R at *
   generalize (y.den:Int)=S at *
   cases ea
   cases eb
   cases ec
   cases ed
   simp only[go_sem,reduceIte,yA,yB,yC,yD,yE,yH,reduceCtorEq,yF,yG,yI,h_fRight,h_Div,h_Compare,hl1,hl2,hl3,hl4,hr,hr2]
   refine wp_loop_keep [5,6,7,8] [135002,135003] (fun ((sg,p,q,r,t):Int × Int × Int × Int × Int) tm mem=>(sg=1∨sg = -1)∧0<q∧0<t∧p.natAbs<LIM∧q.natAbs<LIM∧r.natAbs<LIM∧t.natAbs<LIM∧(P*S-R*Q).sign=sg*(p*t-r*q).sign∧tm 9 = .dat (.int .i64 sg)∧mem 135005=some (0,[.dat (.int .i64 p.sign),.dat (.sl ((dg p.natAbs).map i64L))])∧mem 135006=some (0,[.dat (.int .i64 q.sign),.dat (.sl ((dg q.natAbs).map i64L))])∧mem 135007=some (0,[.dat (.int .i64 r.sign),.dat (.sl ((dg r.natAbs).map i64L))])∧mem 135008=some (0,[.dat (.int .i64 t.sign),.dat (.sl ((dg t.natAbs).map i64L))])) (fun (_,_,q,_,_)=>q.natAbs) (1,P,Q,R,S) (by refine⟨.inl rfl,hx0,hy0,hxn,hxd,hyn,hyd,by rw[Int.one_mul],rfl,?_,?_,?_,?_⟩<;>rfl) ?_
   intro vs ms hvs hms
   simp only[go_sem,reduceIte,yA,yB,yC,yD,yE,yH,reduceCtorEq,yF,yG,yI,h_fRight,h_Div,h_Compare] at hvs hms
   subst hvs hms
   rintro⟨sg,p,q,r,t⟩ tm mem hk hm ⟨hsg,hq0,ht0,hp,hq,hrr,ht,hval,h9,m5,m6,m7,m8⟩
   simp only[go_sem,reduceIte,yA,yB,yC,yD,yE,yH,reduceCtorEq,yF,yG,yI,h_fRight,h_Div,h_Compare,yM] at hk hm
   obtain⟨h5,h6,h7,h8⟩:=hk
   have lp:=len_ok hp
   have lq:=len_ok hq
   have lr:=len_ok hrr
   have lt:=len_ok ht
   have hd1:=divR_pair hp hq hq0
   have hd2:=divR_pair hrr ht ht0
   have bx:=fdiv_lim (y:=q) hp (by omega)
   have by':=fdiv_lim (y:=t) hrr (by omega)
   have lx:=len_ok bx
   have ly:=len_ok by'
   have hcm:cmpR ((p.fdiv q).sign,dg (p.fdiv q).natAbs) ((r.fdiv t).sign,dg (r.fdiv t).natAbs)=cmpI (p.fdiv q) (r.fdiv t):=cmpR_enc bx by'
   have bu:=fmod_bnd (p:=p) hq0
   have bv:=fmod_bnd (p:=r) ht0
   have hneg1:IntKind.i64.wrap (0-sg) = -sg:=by rcases hsg with rfl | rfl<;>rfl
   rcases Int.lt_trichotomy (p.fdiv q) (r.fdiv t) with hlt | heq | hgt
   ·have hv:=cmp_lt hq0 ht0 hlt
    rw[cmpI_lt hlt] at hcm
    rw[hval,Int.sign_eq_neg_one_of_neg hv]
    have hw:IntKind.i64.wrap (sg * -1)=sg * -1:=by rcases hsg with rfl | rfl<;>rfl
    simp only[go_sem,reduceIte,yA,yB,yC,yD,yE,yH,reduceCtorEq,yF,yG,yI,h_fRight,h_Div,h_Compare,h5,h6,h7,h8,h9,hm,m5,m6,m7,m8,lp,lq,lr,lt,lx,ly,hd1,hd2,hcm,hw,bigE2,bigL,show ((-1:Int)==0)=false from rfl]
    repeat' (first|refine qqA ?_ ?_|refine qqB ?_ ?_|refine qqC ?_ ?_|refine qqD ?_ ?_|refine qqE ?_ ?_|refine qqF ?_ ?_)<;>intro h<;>simp only[h,go_sem,reduceIte,yA,yB,yC,yD,yE,yH,reduceCtorEq,yF,yG,yI,h_fRight,h_Div,h_Compare,h5,h6,h7,h8,h9,hm,m5,m6,m7,m8,lp,lq,lr,lt,lx,ly,hd1,hd2,hcm,hw,bigE2,bigL,show ((-1:Int)==0)=false from rfl]
   ·have hv:=cmp_eq heq
    rw[heq,cmpI_eq] at hcm
    have hw2:∀ a:Int,-1≤a→a≤1→IntKind.i64.wrap (sg*a)=sg*a:=by
     intro a h1 h2
     rcases hsg with rfl | rfl<;>exact wrap64 _ (by omega) (by omega)
    rw[heq] at hd1 lx
    have bul:(p.fmod q).natAbs<LIM:=by omega
    have bvl:(r.fmod t).natAbs<LIM:=by omega
    rw[hv] at hval
    generalize p.fmod q=u at *
    generalize r.fmod t=v at *
    by_cases hu:u=0
    ·subst hu
     have hs:(0*t-v*q).sign=(0:Int).sign-v.sign:=by
      rw[Int.zero_mul,Int.zero_sub,Int.sign_neg,Int.sign_mul,Int.sign_eq_one_of_pos hq0,Int.mul_one,Int.sign_zero,Int.zero_sub]
     rw[hs] at hval
     rw[hval]
     have h3:=sign_abs v
     have hw0:IntKind.i64.wrap ((0:Int).sign-v.sign)=(0:Int).sign-v.sign:=wrap64 _ (by rw[Int.sign_zero];omega) (by rw[Int.sign_zero];omega)
     have hw:=hw2 ((0:Int).sign-v.sign) (by rw[Int.sign_zero];omega) (by rw[Int.sign_zero];omega)
     simp only[go_sem,reduceIte,yA,yB,yC,yD,yE,yH,reduceCtorEq,yF,yG,yI,h_fRight,h_Div,h_Compare,h5,h6,h7,h8,h9,hm,m5,m6,m7,m8,lp,lq,lr,lt,lx,ly,hd1,hd2,hcm,hw,hw0,bigE2,bigL,show ((0:Int)==0)=true from rfl,show ((0:Int).sign==0)=true from rfl]
     repeat' (first|refine qqA ?_ ?_|refine qqB ?_ ?_|refine qqC ?_ ?_|refine qqD ?_ ?_|refine qqE ?_ ?_|refine qqF ?_ ?_)<;>intro h<;>simp only[h,go_sem,reduceIte,yA,yB,yC,yD,yE,yH,reduceCtorEq,yF,yG,yI,h_fRight,h_Div,h_Compare,h5,h6,h7,h8,h9,hm,m5,m6,m7,m8,lp,lq,lr,lt,lx,ly,hd1,hd2,hcm,hw,hw0,bigE2,bigL,show ((0:Int)==0)=true from rfl,show ((0:Int).sign==0)=true from rfl]
    ·have hu0:0<u:=by omega
     have hu1:(u.sign==0)=false:=by simpa using hu
     by_cases hv0:v=0
     ·subst hv0
      have hs:(u*t-0*q).sign=u.sign-(0:Int).sign:=by
       rw[Int.zero_mul,Int.sub_zero,Int.sign_mul,Int.sign_eq_one_of_pos ht0,Int.mul_one,Int.sign_zero,Int.sub_zero]
      rw[hs] at hval
      rw[hval]
      have h3:=sign_abs u
      have hw0:IntKind.i64.wrap (u.sign-(0:Int).sign)=u.sign-(0:Int).sign:=wrap64 _ (by rw[Int.sign_zero];omega) (by rw[Int.sign_zero];omega)
      have hw:=hw2 (u.sign-(0:Int).sign) (by rw[Int.sign_zero];omega) (by rw[Int.sign_zero];omega)
      simp only[go_sem,reduceIte,yA,yB,yC,yD,yE,yH,reduceCtorEq,yF,yG,yI,h_fRight,h_Div,h_Compare,h5,h6,h7,h8,h9,hm,m5,m6,m7,m8,lp,lq,lr,lt,lx,ly,hd1,hd2,hcm,hw,hw0,hu1,bigE2,bigL,show ((0:Int)==0)=true from rfl,show ((0:Int).sign==0)=true from rfl]
      repeat' (first|refine qqA ?_ ?_|refine qqB ?_ ?_|refine qqC ?_ ?_|refine qqD ?_ ?_|refine qqE ?_ ?_|refine qqF ?_ ?_)<;>intro h<;>simp only[h,go_sem,reduceIte,yA,yB,yC,yD,yE,yH,reduceCtorEq,yF,yG,yI,h_fRight,h_Div,h_Compare,h5,h6,h7,h8,h9,hm,m5,m6,m7,m8,lp,lq,lr,lt,lx,ly,hd1,hd2,hcm,hw,hw0,hu1,bigE2,bigL,show ((0:Int)==0)=true from rfl,show ((0:Int).sign==0)=true from rfl]
     ·have hv1:(v.sign==0)=false:=by simpa using hv0
      simp only[go_sem,reduceIte,yA,yB,yC,yD,yE,yH,reduceCtorEq,yF,yG,yI,h_fRight,h_Div,h_Compare,h5,h6,h7,h8,h9,hm,m5,m6,m7,m8,lp,lq,lr,lt,lx,ly,hd1,hd2,hcm,hu1,hv1,hneg1,bigE2,bigL,show ((0:Int)==0)=true from rfl]
      repeat' (first|refine qqA ?_ ?_|refine qqB ?_ ?_|refine qqC ?_ ?_|refine qqD ?_ ?_|refine qqE ?_ ?_|refine qqF ?_ ?_)<;>intro h<;>simp only[h,go_sem,reduceIte,yA,yB,yC,yD,yE,yH,reduceCtorEq,yF,yG,yI,h_fRight,h_Div,h_Compare,h5,h6,h7,h8,h9,hm,m5,m6,m7,m8,lp,lq,lr,lt,lx,ly,hd1,hd2,hcm,hu1,hv1,hneg1,bigE2,bigL,show ((0:Int)==0)=true from rfl]
      refine⟨(-sg,q,u,t,v),by dsimp only;omega,by dsimp only;omega,by dsimp only;omega,by dsimp only;omega,by dsimp only;omega,by dsimp only;omega,by dsimp only;omega,by dsimp only;omega,?_,by simp [go_sem],by simp [go_sem],by simp [go_sem],by simp [go_sem],by simp [go_sem]⟩
      dsimp only
      rw[hval,sign_swap (q*v) (t*u),Int.neg_mul_neg,Int.mul_comm t u,Int.mul_comm q v]
   ·have hv:=cmp_lt ht0 hq0 hgt
    rw[cmpI_gt hgt] at hcm
    rw[hval,sign_swap,Int.sign_eq_neg_one_of_neg hv]
    have hw:IntKind.i64.wrap (sg*1)=sg * -(-1):=by rcases hsg with rfl | rfl<;>rfl
    simp only[go_sem,reduceIte,yA,yB,yC,yD,yE,yH,reduceCtorEq,yF,yG,yI,h_fRight,h_Div,h_Compare,h5,h6,h7,h8,h9,hm,m5,m6,m7,m8,lp,lq,lr,lt,lx,ly,hd1,hd2,hcm,hw,bigE2,bigL,show ((1:Int)==0)=false from rfl]
    repeat' (first|refine qqA ?_ ?_|refine qqB ?_ ?_|refine qqC ?_ ?_|refine qqD ?_ ?_|refine qqE ?_ ?_|refine qqF ?_ ?_)<;>intro h<;>simp only[h,go_sem,reduceIte,yA,yB,yC,yD,yE,yH,reduceCtorEq,yF,yG,yI,h_fRight,h_Div,h_Compare,h5,h6,h7,h8,h9,hm,m5,m6,m7,m8,lp,lq,lr,lt,lx,ly,hd1,hd2,hcm,hw,bigE2,bigL,show ((1:Int)==0)=false from rfl]
  ·have hr2:rightF ((s3,l3),(s4,l4))=false:=by simpa using hr2
   have hm:cmpF ((s,l),(s2,l2)) ((s3,l3),(s4,l4))=0:=by unfold cmpF;rw[if_pos hr,if_neg (by simp [hr2])]
   rw[hm]
   simp only[go_sem,reduceIte,yA,yB,yC,yD,yE,yH,reduceCtorEq,yF,yG,yI,h_fRight,h_Div,h_Compare,hl1,hl2,hl3,hl4,hr,hr2]
   repeat' (first|refine qqA ?_ ?_|refine qqB ?_ ?_|refine qqC ?_ ?_|refine qqD ?_ ?_|refine qqE ?_ ?_|refine qqF ?_ ?_)<;>intro h<;>simp only[h,go_sem,reduceIte,yA,yB,yC,yD,yE,yH,reduceCtorEq,yF,yG,yI,h_fRight,h_Div,h_Compare,hl1,hl2,hl3,hl4,hr,hr2]
 ·have hr:rightF ((s,l),(s2,l2))=false:=by simpa using hr
  have hm:cmpF ((s,l),(s2,l2)) ((s3,l3),(s4,l4))=0:=by unfold cmpF;rw[if_neg (by simp [hr])]
  rw[hm]
  simp only[go_sem,reduceIte,yA,yB,yC,yD,yE,yH,reduceCtorEq,yF,yG,yI,h_fRight,h_Div,h_Compare,hl1,hl2,hl3,hl4,hr]
  repeat' (first|refine qqA ?_ ?_|refine qqB ?_ ?_|refine qqC ?_ ?_|refine qqD ?_ ?_|refine qqE ?_ ?_|refine qqF ?_ ?_)<;>intro h<;>simp only[h,go_sem,reduceIte,yA,yB,yC,yD,yE,yH,reduceCtorEq,yF,yG,yI,h_fRight,h_Div,h_Compare,hl1,hl2,hl3,hl4,hr]
end Go.Mini
namespace Go.Mini
open Go
def mf_linear_Right:MFunc :=
 { n:=22,np:=2,res:=[.t 4],body :=
 (.seq (.ops [
 ⟨some 3,none,.box 108003 (.t 1)⟩,⟨some 4,none,.mv (.c (.dat (.bool false)))⟩])
 (.seq (.seq (.ops [
 ⟨some 6,none,.load 1 false (.t 3)⟩,⟨some 7,none,.bin .lss (.t 6) (.c (.dat (.int .i64 0)))⟩,⟨some 8,none,.mv (.t 7)⟩,⟨some 9,some (8,false),.load 1 false (.t 3)⟩,⟨some 10,some (8,false),.bin .gtr (.t 9) (.c (.dat (.int .i64 40)))⟩,⟨some 11,none,.pick (.t 8) (.c (.dat (.bool true))) (.t 10)⟩,⟨some 12,none,.mv (.t 11)⟩,⟨some 13,some (12,false),.mv (.t 0)⟩,⟨some 14,some (12,false),.len (.t 13)⟩,⟨some 15,some (12,false),.load 1 false (.t 3)⟩,⟨some 16,some (12,false),.bin .neq (.t 14) (.t 15)⟩,⟨some 17,none,.pick (.t 12) (.c (.dat (.bool true))) (.t 16)⟩])
 (.cond (.t 17)
 (.seq (.ops [
 ⟨some 4,none,.mv (.c (.dat (.bool false)))⟩])
 .ret)
 .skip))
 (.seq (.ops [
 ⟨some 5,none,.alloc 108005 [(.dat .nilf)]⟩,⟨none,none,.store 1 (.t 5) (.c (.clo id_linear_Right_1 []))⟩])
 (.seq (.ops [
 ⟨some 18,none,.mv (.t 0)⟩,⟨some 19,none,.mkfn id_linear_Right_2 [(.t 3),(.t 5)]⟩,⟨some 20,none,.call id_slices_ContainsFunc_Row [(.t 18),(.t 19)]⟩,⟨some 21,none,.un .not (.t 20)⟩,⟨some 4,none,.mv (.t 21)⟩])
 .ret)))) }
def mf_linear_Solve:MFunc :=
 { n:=48,np:=2,res:=[.t 4,.t 5],body :=
 (.seq (.ops [
 ⟨some 4,none,.mv (.c .nil)⟩,⟨some 5,none,.mv (.c (.dat (.int .i64 0)))⟩])
 (.seq (.seq (.ops [
 ⟨some 11,none,.mv (.t 0)⟩,⟨some 12,none,.mv (.t 1)⟩,⟨some 13,none,.call id_linear_Right [(.t 11),(.t 12)]⟩,⟨some 14,none,.un .not (.t 13)⟩])
 (.cond (.t 14)
 (.seq (.ops [
 ⟨some 4,none,.mv (.c .nil)⟩,⟨some 5,none,.mv (.c (.dat (.int .i64 1)))⟩])
 .ret)
 .skip))
 (.seq (.ops [
 ⟨some 16,none,.mv (.t 0)⟩,⟨some 17,none,.mv (.t 1)⟩,⟨some 18,none,.call id_linear_eliminated [(.t 16),(.t 17),(.c (.dat (.bool true)))]⟩,⟨some 15,none,.mv (.t 18)⟩,⟨some 19,none,.ext 0 (.t 15)⟩,⟨some 20,none,.ext 1 (.t 15)⟩,⟨some 6,none,.mv (.t 19)⟩,⟨some 7,none,.mv (.t 20)⟩])
 (.seq (.block 0
 (.seq (.ops [
 ⟨some 22,none,.mv (.t 6)⟩,⟨some 23,none,.nchk (.t 22)⟩,⟨some 24,none,.fad 2 (.t 23)⟩,⟨some 25,none,.load 1 false (.t 24)⟩,⟨some 21,none,.mv (.t 25)⟩])
 (.cond (.t 21)
 (.seq (.ops [
 ⟨some 4,none,.mv (.c .nil)⟩,⟨some 5,none,.mv (.c (.dat (.int .i64 6)))⟩])
 .ret)
 (.seq (.ops [
 ⟨some 27,none,.mv (.t 7)⟩,⟨some 28,none,.len (.t 27)⟩,⟨some 29,none,.bin .gtr (.t 28) (.c (.dat (.int .i64 0)))⟩,⟨some 26,none,.mv (.t 29)⟩])
 (.cond (.t 26)
 (.seq (.ops [
 ⟨some 4,none,.mv (.c .nil)⟩,⟨some 5,none,.mv (.c (.dat (.int .i64 17)))⟩])
 .ret)
 .skip)))))
 (.seq (.ops [
 ⟨some 8,none,.mv (.c .nil)⟩])
 (.seq (.seq (.ops [
 ⟨some 30,none,.mv (.t 6)⟩,⟨some 31,none,.nchk (.t 30)⟩,⟨some 32,none,.fad 0 (.t 31)⟩,⟨some 33,none,.load 1 false (.t 32)⟩,⟨some 34,none,.len (.t 33)⟩,⟨some 35,none,.mv (.c (.dat (.int .i64 0)))⟩])
 (.block 1
 (.ghost (.adopt 8 109045 4) (.loop
 (.seq (.ops [
 ⟨some 36,none,.bin .lss (.t 35) (.t 34)⟩])
 (.seq (.cond (.t 36)
 .skip
 (.exit 1))
 (.seq (.block 2
 (.seq (.ops [
 ⟨some 37,none,.iad 1 (.t 33) (.t 35)⟩,⟨some 38,none,.load 1 false (.t 37)⟩,⟨some 10,none,.mv (.t 38)⟩])
 (.ops [
 ⟨some 39,none,.mv (.t 8)⟩,⟨some 40,none,.mv (.t 10)⟩,⟨some 41,none,.mv (.t 1)⟩,⟨some 42,none,.iad 4 (.t 40) (.t 41)⟩,⟨some 43,none,.load 4 true (.t 42)⟩,⟨some 44,none,.bsl 109044 false [(.dat (.int .i64 0)),.nil,(.dat (.int .i64 0)),.nil] 4 1 [(0,4,(.t 43))]⟩,⟨some 45,none,.app 109045 [(.dat (.int .i64 0)),.nil,(.dat (.int .i64 0)),.nil] 64 (.t 39) (.t 44)⟩,⟨some 8,none,.mv (.t 45)⟩])))
 (.ops [
 ⟨some 46,none,.bin .add (.t 35) (.c (.dat (.int .i64 1)))⟩,⟨some 35,none,.mv (.t 46)⟩]))))))))
 (.seq (.ops [
 ⟨some 47,none,.mv (.t 8)⟩,⟨some 4,none,.mv (.t 47)⟩,⟨some 5,none,.mv (.c (.dat (.int .i64 0)))⟩])
 .ret))))))) }
def mf_linear_Kernel:MFunc :=
 { n:=76,np:=2,res:=[.t 4,.t 5],body :=
 (.seq (.ops [
 ⟨some 4,none,.mv (.c .nil)⟩,⟨some 5,none,.mv (.c (.dat (.bool false)))⟩])
 (.seq (.seq (.ops [
 ⟨some 12,none,.mv (.t 0)⟩,⟨some 13,none,.mv (.t 1)⟩,⟨some 14,none,.call id_linear_Right [(.t 12),(.t 13)]⟩,⟨some 15,none,.un .not (.t 14)⟩])
 (.cond (.t 15)
 (.seq (.ops [
 ⟨some 4,none,.mv (.c .nil)⟩,⟨some 5,none,.mv (.c (.dat (.bool false)))⟩])
 .ret)
 .skip))
 (.seq (.ops [
 ⟨some 17,none,.mv (.t 0)⟩,⟨some 18,none,.mv (.t 1)⟩,⟨some 19,none,.call id_linear_eliminated [(.t 17),(.t 18),(.c (.dat (.bool true)))]⟩,⟨some 16,none,.mv (.t 19)⟩,⟨some 20,none,.ext 0 (.t 16)⟩,⟨some 21,none,.ext 1 (.t 16)⟩,⟨some 6,none,.mv (.t 20)⟩,⟨some 7,none,.mv (.t 21)⟩])
 (.seq (.seq (.ops [
 ⟨some 22,none,.mv (.t 6)⟩,⟨some 23,none,.nchk (.t 22)⟩,⟨some 24,none,.fad 2 (.t 23)⟩,⟨some 25,none,.load 1 false (.t 24)⟩,⟨some 26,none,.mv (.t 25)⟩,⟨some 27,some (26,false),.mv (.t 7)⟩,⟨some 28,some (26,false),.len (.t 27)⟩,⟨some 29,some (26,false),.bin .eql (.t 28) (.c (.dat (.int .i64 0)))⟩,⟨some 30,none,.pick (.t 26) (.c (.dat (.bool true))) (.t 29)⟩])
 (.cond (.t 30)
 (.seq (.ops [
 ⟨some 4,none,.mv (.c .nil)⟩,⟨some 5,none,.mv (.c (.dat (.bool false)))⟩])
 .ret)
 .skip))
 (.seq (.ops [
 ⟨some 32,none,.call id_frac_Of [(.c (.dat (.int .i64 0))),(.c (.dat (.int .i64 1)))]⟩,⟨some 31,none,.mv (.t 32)⟩,⟨some 33,none,.ext 0 (.t 31)⟩,⟨some 34,none,.ext 1 (.t 31)⟩,⟨some 8,none,.alloc 110008 [(.dat (.int .i64 0)),.nil,(.dat (.int .i64 0)),.nil]⟩,⟨none,none,.store 4 (.t 8) (.t 33)⟩,⟨some 9,none,.mv (.t 34)⟩])
 (.seq (.ops [
 ⟨some 35,none,.load 4 true (.t 8)⟩,⟨some 36,none,.bsl 110036 false [(.dat (.int .i64 0)),.nil,(.dat (.int .i64 0)),.nil] 4 1 [(0,4,(.t 35))]⟩,⟨some 37,none,.mv (.t 1)⟩,⟨some 38,none,.callo 110038 4 id_slices_Repeat_Frac [(.t 36),(.t 37)]⟩,⟨some 10,none,.mv (.t 38)⟩])
 (.seq (.opsD [
 ⟨some 40,none,.mv (.t 10)⟩,⟨some 41,none,.mv (.t 7)⟩,⟨some 42,none,.iad 1 (.t 41) (.c (.dat (.int .i64 0)))⟩,⟨some 43,none,.load 1 false (.t 42)⟩,⟨some 44,none,.call id_frac_Of [(.c (.dat (.int .i64 1))),(.c (.dat (.int .i64 1)))]⟩,⟨some 39,none,.mv (.t 44)⟩,⟨some 45,none,.ext 0 (.t 39)⟩,⟨some 46,none,.ext 1 (.t 39)⟩,⟨some 47,none,.iad 4 (.t 40) (.t 43)⟩,⟨none,none,.store 4 (.t 47) (.t 45)⟩] [[],[],[],[],[],[],[],[],[],[]])
 (.seq (.seq (.ops [
 ⟨some 48,none,.mv (.t 7)⟩,⟨some 49,none,.iad 1 (.t 48) (.c (.dat (.int .i64 0)))⟩,⟨some 50,none,.load 1 false (.t 49)⟩,⟨some 51,none,.mv (.c (.dat (.int .i64 0)))⟩])
 (.block 0
 (.loop
 (.seq (.ops [
 ⟨some 52,none,.bin .lss (.t 51) (.t 50)⟩])
 (.seq (.cond (.t 52)
 .skip
 (.exit 0))
 (.seq (.block 1
 (.seq (.ops [
 ⟨some 53,none,.mv (.t 51)⟩,⟨some 11,none,.mv (.t 53)⟩])
 (.opsD [
 ⟨some 55,none,.mv (.t 10)⟩,⟨some 56,none,.mv (.t 11)⟩,⟨some 57,none,.load 4 true (.t 8)⟩,⟨some 58,none,.mv (.t 6)⟩,⟨some 59,none,.nchk (.t 58)⟩,⟨some 60,none,.fad 0 (.t 59)⟩,⟨some 61,none,.load 1 false (.t 60)⟩,⟨some 62,none,.mv (.t 11)⟩,⟨some 63,none,.iad 1 (.t 61) (.t 62)⟩,⟨some 64,none,.load 1 false (.t 63)⟩,⟨some 65,none,.mv (.t 7)⟩,⟨some 66,none,.iad 1 (.t 65) (.c (.dat (.int .i64 0)))⟩,⟨some 67,none,.load 1 false (.t 66)⟩,⟨some 68,none,.iad 4 (.t 64) (.t 67)⟩,⟨some 69,none,.load 4 true (.t 68)⟩,⟨some 70,none,.call id_frac_Sub [(.t 57),(.t 69)]⟩,⟨some 54,none,.mv (.t 70)⟩,⟨some 71,none,.ext 0 (.t 54)⟩,⟨some 72,none,.ext 1 (.t 54)⟩,⟨some 73,none,.iad 4 (.t 55) (.t 56)⟩,⟨none,none,.store 4 (.t 73) (.t 71)⟩] [[],[],[],[],[],[],[],[],[],[],[],[],[],[],[],[],[],[],[],[],[]])))
 (.ops [
 ⟨some 74,none,.bin .add (.t 51) (.c (.dat (.int .i64 1)))⟩,⟨some 51,none,.mv (.t 74)⟩])))))))
 (.seq (.ops [
 ⟨some 75,none,.mv (.t 10)⟩,⟨some 4,none,.mv (.t 75)⟩,⟨some 5,none,.mv (.c (.dat (.bool true)))⟩])
 .ret))))))))) }
def mf_linear_Check:MFunc :=
 { n:=78,np:=3,res:=[.t 6],body :=
 (.seq (.ops [
 ⟨some 6,none,.mv (.c (.dat (.bool false)))⟩])
 (.seq (.seq (.ops [
 ⟨some 17,none,.mv (.t 0)⟩,⟨some 18,none,.mv (.t 1)⟩,⟨some 19,none,.call id_linear_Right [(.t 17),(.t 18)]⟩,⟨some 20,none,.un .not (.t 19)⟩,⟨some 21,none,.mv (.t 20)⟩,⟨some 22,some (21,false),.mv (.t 2)⟩,⟨some 23,some (21,false),.len (.t 22)⟩,⟨some 24,some (21,false),.mv (.t 1)⟩,⟨some 25,some (21,false),.bin .neq (.t 23) (.t 24)⟩,⟨some 26,none,.pick (.t 21) (.c (.dat (.bool true))) (.t 25)⟩,⟨some 27,none,.mv (.t 26)⟩,⟨some 28,some (27,false),.mv (.t 2)⟩,⟨some 29,some (27,false),.call id_slices_ContainsFunc_Frac [(.t 28),(.c (.clo id_linear_Check_1 []))]⟩,⟨some 30,none,.pick (.t 27) (.c (.dat (.bool true))) (.t 29)⟩])
 (.cond (.t 30)
 (.seq (.ops [
 ⟨some 6,none,.mv (.c (.dat (.bool false)))⟩])
 .ret)
 .skip))
 (.seq (.seq (.ops [
 ⟨some 31,none,.mv (.t 0)⟩,⟨some 32,none,.len (.t 31)⟩,⟨some 33,none,.mv (.c (.dat (.int .i64 0)))⟩])
 (.block 0
 (.loop
 (.seq (.ops [
 ⟨some 34,none,.bin .lss (.t 33) (.t 32)⟩])
 (.seq (.cond (.t 34)
 .skip
 (.exit 0))
 (.seq (.block 1
 (.seq (.ops [
 ⟨some 35,none,.iad 5 (.t 31) (.t 33)⟩,⟨some 36,none,.load 5 true (.t 35)⟩,⟨some 8,none,.alloc 111008 [.nil,(.dat (.int .i64 0)),.nil,(.dat (.int .i64 0)),.nil]⟩,⟨none,none,.store 5 (.t 8) (.t 36)⟩])
 (.seq (.ops [
 ⟨some 38,none,.call id_frac_Of [(.c (.dat (.int .i64 0))),(.c (.dat (.int .i64 1)))]⟩,⟨some 37,none,.mv (.t 38)⟩,⟨some 39,none,.ext 0 (.t 37)⟩,⟨some 40,none,.ext 1 (.t 37)⟩,⟨some 9,none,.alloc 111009 [(.dat (.int .i64 0)),.nil,(.dat (.int .i64 0)),.nil]⟩,⟨none,none,.store 4 (.t 9) (.t 39)⟩,⟨some 10,none,.mv (.t 40)⟩])
 (.seq (.seq (.ops [
 ⟨some 41,none,.fad 0 (.t 8)⟩,⟨some 42,none,.load 1 false (.t 41)⟩,⟨some 43,none,.len (.t 42)⟩,⟨some 44,none,.mv (.c (.dat (.int .i64 0)))⟩])
 (.block 2
 (.loop
 (.seq (.ops [
 ⟨some 45,none,.bin .lss (.t 44) (.t 43)⟩])
 (.seq (.cond (.t 45)
 .skip
 (.exit 2))
 (.seq (.block 3
 (.seq (.ops [
 ⟨some 46,none,.mv (.t 44)⟩,⟨some 47,none,.iad 4 (.t 42) (.t 44)⟩,⟨some 48,none,.load 4 true (.t 47)⟩,⟨some 12,none,.alloc 111012 [(.dat (.int .i64 0)),.nil,(.dat (.int .i64 0)),.nil]⟩,⟨some 11,none,.mv (.t 46)⟩,⟨none,none,.store 4 (.t 12) (.t 48)⟩])
 (.seq (.opsD [
 ⟨some 50,none,.load 4 true (.t 12)⟩,⟨some 51,none,.mv (.t 2)⟩,⟨some 52,none,.mv (.t 11)⟩,⟨some 53,none,.iad 4 (.t 51) (.t 52)⟩,⟨some 54,none,.load 4 true (.t 53)⟩,⟨some 55,none,.call id_frac_Mul [(.t 50),(.t 54)]⟩,⟨some 49,none,.mv (.t 55)⟩,⟨some 56,none,.ext 0 (.t 49)⟩,⟨some 57,none,.ext 1 (.t 49)⟩,⟨some 13,none,.alloc 111013 [(.dat (.int .i64 0)),.nil,(.dat (.int .i64 0)),.nil]⟩,⟨none,none,.store 4 (.t 13) (.t 56)⟩,⟨some 14,none,.mv (.t 57)⟩] [[],[],[],[],[],[],[],[],[],[0,4],[],[]])
 (.seq (.ops [
 ⟨some 59,none,.load 4 true (.t 9)⟩,⟨some 60,none,.load 4 true (.t 13)⟩,⟨some 61,none,.call id_frac_Add [(.t 59),(.t 60)]⟩,⟨some 58,none,.mv (.t 61)⟩,⟨some 62,none,.ext 0 (.t 58)⟩,⟨some 63,none,.ext 1 (.t 58)⟩,⟨some 15,none,.alloc 111015 [(.dat (.int .i64 0)),.nil,(.dat (.int .i64 0)),.nil]⟩,⟨none,none,.store 4 (.t 15) (.t 62)⟩,⟨some 16,none,.mv (.t 63)⟩])
 (.seq (.seq (.ops [
 ⟨some 64,none,.mv (.t 14)⟩,⟨some 65,none,.bin .neq (.t 64) (.c (.dat (.int .i64 0)))⟩,⟨some 66,none,.mv (.t 65)⟩,⟨some 67,some (66,false),.mv (.t 16)⟩,⟨some 68,some (66,false),.bin .neq (.t 67) (.c (.dat (.int .i64 0)))⟩,⟨some 69,none,.pick (.t 66) (.c (.dat (.bool true))) (.t 68)⟩])
 (.cond (.t 69)
 (.seq (.ops [
 ⟨some 6,none,.mv (.c (.dat (.bool false)))⟩])
 .ret)
 .skip))
 (.ops [
 ⟨some 70,none,.load 4 true (.t 15)⟩,⟨none,none,.store 4 (.t 9) (.t 70)⟩]))))))
 (.ops [
 ⟨some 71,none,.bin .add (.t 44) (.c (.dat (.int .i64 1)))⟩,⟨some 44,none,.mv (.t 71)⟩])))))))
 (.seq (.ops [
 ⟨some 72,none,.load 4 true (.t 9)⟩,⟨some 73,none,.fad 1 (.t 8)⟩,⟨some 74,none,.load 4 true (.t 73)⟩,⟨some 75,none,.call id_frac_Compare [(.t 72),(.t 74)]⟩,⟨some 76,none,.bin .neq (.t 75) (.c (.dat (.int .i64 0)))⟩])
 (.cond (.t 76)
 (.seq (.ops [
 ⟨some 6,none,.mv (.c (.dat (.bool false)))⟩])
 .ret)
 .skip))))))
 (.ops [
 ⟨some 77,none,.bin .add (.t 33) (.c (.dat (.int .i64 1)))⟩,⟨some 33,none,.mv (.t 77)⟩])))))))
 (.seq (.ops [
 ⟨some 6,none,.mv (.c (.dat (.bool true)))⟩])
 .ret)))) }
def mf_linear_Rank:MFunc :=
 { n:=26,np:=2,res:=[.t 4,.t 5],body :=
 (.seq (.ops [
 ⟨some 4,none,.mv (.c (.dat (.int .i64 0)))⟩,⟨some 5,none,.mv (.c (.dat (.int .i64 0)))⟩])
 (.seq (.seq (.ops [
 ⟨some 8,none,.mv (.t 0)⟩,⟨some 9,none,.mv (.t 1)⟩,⟨some 10,none,.call id_linear_Right [(.t 8),(.t 9)]⟩,⟨some 11,none,.un .not (.t 10)⟩])
 (.cond (.t 11)
 (.seq (.ops [
 ⟨some 4,none,.mv (.c (.dat (.int .i64 0)))⟩,⟨some 5,none,.mv (.c (.dat (.int .i64 1)))⟩])
 .ret)
 .skip))
 (.seq (.ops [
 ⟨some 13,none,.mv (.t 0)⟩,⟨some 14,none,.mv (.t 1)⟩,⟨some 15,none,.call id_linear_eliminated [(.t 13),(.t 14),(.c (.dat (.bool false)))]⟩,⟨some 12,none,.mv (.t 15)⟩,⟨some 16,none,.ext 0 (.t 12)⟩,⟨some 17,none,.ext 1 (.t 12)⟩,⟨some 6,none,.mv (.t 16)⟩,⟨some 7,none,.mv (.t 17)⟩])
 (.seq (.seq (.ops [
 ⟨some 18,none,.mv (.t 6)⟩,⟨some 19,none,.nchk (.t 18)⟩,⟨some 20,none,.fad 2 (.t 19)⟩,⟨some 21,none,.load 1 false (.t 20)⟩])
 (.cond (.t 21)
 (.seq (.ops [
 ⟨some 4,none,.mv (.c (.dat (.int .i64 0)))⟩,⟨some 5,none,.mv (.c (.dat (.int .i64 6)))⟩])
 .ret)
 .skip))
 (.seq (.ops [
 ⟨some 22,none,.mv (.t 1)⟩,⟨some 23,none,.mv (.t 7)⟩,⟨some 24,none,.len (.t 23)⟩,⟨some 25,none,.bin .sub (.t 22) (.t 24)⟩,⟨some 4,none,.mv (.t 25)⟩,⟨some 5,none,.mv (.c (.dat (.int .i64 0)))⟩])
 .ret))))) }
def mf_linear_Right_1:MFunc :=
 { n:=6,np:=1,res:=[.t 2],body :=
 (.seq (.ops [
 ⟨some 1,none,.box 125001 (.t 0)⟩,⟨some 2,none,.mv (.c (.dat (.bool false)))⟩])
 (.seq (.ops [
 ⟨some 3,none,.load 4 true (.t 1)⟩,⟨some 4,none,.call id_frac_Right [(.t 3)]⟩,⟨some 5,none,.un .not (.t 4)⟩,⟨some 2,none,.mv (.t 5)⟩])
 .ret)) }
def mf_linear_Right_2:MFunc :=
 { n:=22,np:=3,res:=[.t 4],body :=
 (.seq (.ops [
 ⟨some 3,none,.box 127003 (.t 0)⟩,⟨some 4,none,.mv (.c (.dat (.bool false)))⟩])
 (.seq (.ops [
 ⟨some 5,none,.fad 0 (.t 3)⟩,⟨some 6,none,.load 1 false (.t 5)⟩,⟨some 7,none,.len (.t 6)⟩,⟨some 8,none,.load 1 false (.t 1)⟩,⟨some 9,none,.bin .neq (.t 7) (.t 8)⟩,⟨some 10,none,.mv (.t 9)⟩,⟨some 11,some (10,false),.load 1 false (.t 2)⟩,⟨some 12,some (10,false),.fad 1 (.t 3)⟩,⟨some 13,some (10,false),.load 4 true (.t 12)⟩,⟨some 14,some (10,false),.callv (.t 11) [(.t 13)]⟩,⟨some 15,none,.pick (.t 10) (.c (.dat (.bool true))) (.t 14)⟩,⟨some 16,none,.mv (.t 15)⟩,⟨some 17,some (16,false),.fad 0 (.t 3)⟩,⟨some 18,some (16,false),.load 1 false (.t 17)⟩,⟨some 19,some (16,false),.load 1 false (.t 2)⟩,⟨some 20,some (16,false),.call id_slices_ContainsFunc_Frac [(.t 18),(.t 19)]⟩,⟨some 21,none,.pick (.t 16) (.c (.dat (.bool true))) (.t 20)⟩,⟨some 4,none,.mv (.t 21)⟩])
 .ret)) }
def mf_linear_eliminated:MFunc :=
 { n:=65,np:=3,res:=[.t 6,.t 7],body :=
 (.seq (.ops [
 ⟨some 6,none,.mv (.c (.dat .nilp))⟩,⟨some 7,none,.mv (.c .nil)⟩])
 (.seq (.ops [
 ⟨some 13,none,.mv (.t 1)⟩,⟨some 14,none,.build [.nil,(.dat (.int .i64 0)),(.dat (.bool false))] [(1,1,(.t 13))]⟩,⟨some 15,none,.box 129015 (.t 14)⟩,⟨some 8,none,.mv (.t 15)⟩])
 (.seq (.seq (.ops [
 ⟨some 16,none,.mv (.t 0)⟩,⟨some 17,none,.len (.t 16)⟩,⟨some 18,none,.mv (.c (.dat (.int .i64 0)))⟩])
 (.block 0
 (.loop
 (.seq (.ops [
 ⟨some 19,none,.bin .lss (.t 18) (.t 17)⟩])
 (.seq (.cond (.t 19)
 .skip
 (.exit 0))
 (.seq (.block 1
 (.seq (.ops [
 ⟨some 20,none,.iad 5 (.t 16) (.t 18)⟩,⟨some 21,none,.load 5 true (.t 20)⟩,⟨some 10,none,.alloc 129010 [.nil,(.dat (.int .i64 0)),.nil,(.dat (.int .i64 0)),.nil]⟩,⟨none,none,.store 5 (.t 10) (.t 21)⟩])
 (.opsD [
 ⟨some 22,none,.mv (.t 8)⟩,⟨some 23,none,.mv (.t 8)⟩,⟨some 24,none,.nchk (.t 23)⟩,⟨some 25,none,.fad 0 (.t 24)⟩,⟨some 26,none,.load 1 false (.t 25)⟩,⟨some 27,none,.fad 0 (.t 10)⟩,⟨some 28,none,.load 1 false (.t 27)⟩,⟨some 29,none,.callo 129029 4 id_slices_Clone_Frac [(.t 28)]⟩,⟨some 30,none,.fad 1 (.t 10)⟩,⟨some 31,none,.load 4 true (.t 30)⟩,⟨some 32,none,.bsl 129032 false [(.dat (.int .i64 0)),.nil,(.dat (.int .i64 0)),.nil] 4 1 [(0,4,(.t 31))]⟩,⟨some 33,none,.app 129033 [(.dat (.int .i64 0)),.nil,(.dat (.int .i64 0)),.nil] 64 (.t 29) (.t 32)⟩,⟨some 34,none,.bsl 129034 true [.nil] 1 1 [(0,1,(.t 33))]⟩,⟨some 35,none,.app 129035 [.nil] 24 (.t 26) (.t 34)⟩,⟨some 36,none,.nchk (.t 22)⟩,⟨some 37,none,.fad 0 (.t 36)⟩,⟨none,none,.store 1 (.t 37) (.t 35)⟩] [[],[],[],[],[],[],[],[4],[],[7],[],[4],[4],[],[],[],[]])))
 (.ghost (.move) (.ops [
 ⟨some 38,none,.bin .add (.t 18) (.c (.dat (.int .i64 1)))⟩,⟨some 18,none,.mv (.t 38)⟩]))))))))
 (.seq (.ops [
 ⟨some 11,none,.mv (.c .nil)⟩])
 (.seq (.seq (.ops [
 ⟨some 12,none,.mv (.c (.dat (.int .i64 0)))⟩])
 (.block 2
 (.ghost (.adopt 11 129061 1) (.loop
 (.seq (.seq (.ops [
 ⟨some 39,none,.mv (.t 12)⟩,⟨some 40,none,.mv (.t 1)⟩,⟨some 41,none,.bin .lss (.t 39) (.t 40)⟩,⟨some 42,none,.mv (.t 41)⟩,⟨some 43,some (42,true),.mv (.t 8)⟩,⟨some 44,some (42,true),.nchk (.t 43)⟩,⟨some 45,some (42,true),.fad 2 (.t 44)⟩,⟨some 46,some (42,true),.load 1 false (.t 45)⟩,⟨some 47,some (42,true),.un .not (.t 46)⟩,⟨some 48,none,.pick (.t 42) (.t 47) (.c (.dat (.bool false)))⟩])
 (.cond (.t 48)
 .skip
 (.exit 2)))
 (.seq (.block 3
 (.seq (.ops [
 ⟨some 51,none,.mv (.t 8)⟩,⟨some 52,none,.mv (.t 12)⟩,⟨some 53,none,.mv (.t 11)⟩,⟨some 54,none,.len (.t 53)⟩,⟨some 55,none,.bin .sub (.t 52) (.t 54)⟩,⟨some 56,none,.mv (.t 12)⟩,⟨some 57,none,.call id_linear_matrix_pivot [(.t 51),(.t 55),(.t 56)]⟩])
 (.cond (.t 57)
 (.seq (.ops [
 ⟨some 58,none,.mv (.t 11)⟩,⟨some 59,none,.mv (.t 12)⟩,⟨some 60,none,.bsl 129060 false [(.dat (.int .i64 0))] 1 1 [(0,1,(.t 59))]⟩,⟨some 61,none,.app 129061 [(.dat (.int .i64 0))] 8 (.t 58) (.t 60)⟩,⟨some 11,none,.mv (.t 61)⟩])
 (.seq (.ops [
 ⟨some 62,none,.mv (.t 2)⟩])
 (.cond (.t 62)
 (.exit 2)
 .skip)))
 .skip)))
 (.ops [
 ⟨some 49,none,.mv (.t 12)⟩,⟨some 50,none,.bin .add (.t 49) (.c (.dat (.int .i64 1)))⟩,⟨some 12,none,.mv (.t 50)⟩])))))))
 (.seq (.ops [
 ⟨some 63,none,.mv (.t 8)⟩,⟨some 64,none,.mv (.t 11)⟩,⟨some 6,none,.mv (.t 63)⟩,⟨some 7,none,.mv (.t 64)⟩])
 .ret)))))) }
def mf_linear_Check_1:MFunc :=
 { n:=6,np:=1,res:=[.t 2],body :=
 (.seq (.ops [
 ⟨some 1,none,.box 133001 (.t 0)⟩,⟨some 2,none,.mv (.c (.dat (.bool false)))⟩])
 (.seq (.ops [
 ⟨some 3,none,.load 4 true (.t 1)⟩,⟨some 4,none,.call id_frac_Right [(.t 3)]⟩,⟨some 5,none,.un .not (.t 4)⟩,⟨some 2,none,.mv (.t 5)⟩])
 .ret)) }
def mf_linear_matrix_pivot:MFunc :=
 { n:=172,np:=3,res:=[.t 6],body :=
 (.seq (.ops [
 ⟨some 6,none,.mv (.c (.dat (.bool false)))⟩])
 (.seq (.ops [
 ⟨some 15,none,.mv (.t 1)⟩,⟨some 7,none,.mv (.t 15)⟩])
 (.seq (.block 0
 (.loop
 (.seq (.seq (.ops [
 ⟨some 16,none,.mv (.t 7)⟩,⟨some 17,none,.mv (.t 0)⟩,⟨some 18,none,.nchk (.t 17)⟩,⟨some 19,none,.fad 1 (.t 18)⟩,⟨some 20,none,.load 1 false (.t 19)⟩,⟨some 21,none,.bin .lss (.t 16) (.t 20)⟩,⟨some 22,none,.mv (.t 21)⟩,⟨some 23,some (22,true),.mv (.t 0)⟩,⟨some 24,some (22,true),.nchk (.t 23)⟩,⟨some 25,some (22,true),.fad 0 (.t 24)⟩,⟨some 26,some (22,true),.load 1 false (.t 25)⟩,⟨some 27,some (22,true),.mv (.t 7)⟩,⟨some 28,some (22,true),.iad 1 (.t 26) (.t 27)⟩,⟨some 29,some (22,true),.load 1 false (.t 28)⟩,⟨some 30,some (22,true),.mv (.t 2)⟩,⟨some 31,some (22,true),.iad 4 (.t 29) (.t 30)⟩,⟨some 32,some (22,true),.load 4 true (.t 31)⟩,⟨some 33,some (22,true),.call id_linear_zero [(.t 32)]⟩,⟨some 34,none,.pick (.t 22) (.t 33) (.c (.dat (.bool false)))⟩])
 (.cond (.t 34)
 .skip
 (.exit 0)))
 (.block 1
 (.ops [
 ⟨some 35,none,.mv (.t 7)⟩,⟨some 36,none,.bin .add (.t 35) (.c (.dat (.int .i64 1)))⟩,⟨some 7,none,.mv (.t 36)⟩])))))
 (.seq (.seq (.ops [
 ⟨some 37,none,.mv (.t 7)⟩,⟨some 38,none,.mv (.t 0)⟩,⟨some 39,none,.nchk (.t 38)⟩,⟨some 40,none,.fad 1 (.t 39)⟩,⟨some 41,none,.load 1 false (.t 40)⟩,⟨some 42,none,.bin .eql (.t 37) (.t 41)⟩])
 (.cond (.t 42)
 (.seq (.ops [
 ⟨some 6,none,.mv (.c (.dat (.bool true)))⟩])
 .ret)
 .skip))
 (.seq (.opsD [
 ⟨some 43,none,.mv (.t 0)⟩,⟨some 44,none,.nchk (.t 43)⟩,⟨some 45,none,.fad 0 (.t 44)⟩,⟨some 46,none,.load 1 false (.t 45)⟩,⟨some 47,none,.mv (.t 1)⟩,⟨some 48,none,.mv (.t 0)⟩,⟨some 49,none,.nchk (.t 48)⟩,⟨some 50,none,.fad 0 (.t 49)⟩,⟨some 51,none,.load 1 false (.t 50)⟩,⟨some 52,none,.mv (.t 7)⟩,⟨some 53,none,.mv (.t 0)⟩,⟨some 54,none,.nchk (.t 53)⟩,⟨some 55,none,.fad 0 (.t 54)⟩,⟨some 56,none,.load 1 false (.t 55)⟩,⟨some 57,none,.mv (.t 7)⟩,⟨some 58,none,.iad 1 (.t 56) (.t 57)⟩,⟨some 59,none,.load 1 false (.t 58)⟩,⟨some 60,none,.mv (.t 0)⟩,⟨some 61,none,.nchk (.t 60)⟩,⟨some 62,none,.fad 0 (.t 61)⟩,⟨some 63,none,.load 1 false (.t 62)⟩,⟨some 64,none,.mv (.t 1)⟩,⟨some 65,none,.iad 1 (.t 63) (.t 64)⟩,⟨some 66,none,.load 1 false (.t 65)⟩,⟨some 67,none,.iad 1 (.t 46) (.t 47)⟩,⟨none,none,.store 1 (.t 67) (.t 59)⟩,⟨some 68,none,.iad 1 (.t 51) (.t 52)⟩,⟨none,none,.store 1 (.t 68) (.t 66)⟩] [[],[],[],[],[],[],[],[],[],[],[],[],[],[],[],[],[],[],[],[],[],[],[],[],[],[],[],[]])
 (.seq (.ops [
 ⟨some 69,none,.mv (.t 0)⟩,⟨some 70,none,.nchk (.t 69)⟩,⟨some 71,none,.fad 0 (.t 70)⟩,⟨some 72,none,.load 1 false (.t 71)⟩,⟨some 73,none,.mv (.t 1)⟩,⟨some 74,none,.iad 1 (.t 72) (.t 73)⟩,⟨some 75,none,.load 1 false (.t 74)⟩,⟨some 76,none,.mv (.t 2)⟩,⟨some 77,none,.iad 4 (.t 75) (.t 76)⟩,⟨some 78,none,.load 4 true (.t 77)⟩,⟨some 8,none,.alloc 148008 [(.dat (.int .i64 0)),.nil,(.dat (.int .i64 0)),.nil]⟩,⟨none,none,.store 4 (.t 8) (.t 78)⟩])
 (.seq (.seq (.ops [
 ⟨some 79,none,.mv (.t 0)⟩,⟨some 80,none,.nchk (.t 79)⟩,⟨some 81,none,.fad 0 (.t 80)⟩,⟨some 82,none,.load 1 false (.t 81)⟩,⟨some 83,none,.mv (.t 1)⟩,⟨some 84,none,.iad 1 (.t 82) (.t 83)⟩,⟨some 85,none,.load 1 false (.t 84)⟩,⟨some 86,none,.len (.t 85)⟩,⟨some 87,none,.mv (.c (.dat (.int .i64 0)))⟩])
 (.block 2
 (.loop
 (.seq (.ops [
 ⟨some 88,none,.bin .lss (.t 87) (.t 86)⟩])
 (.seq (.cond (.t 88)
 .skip
 (.exit 2))
 (.seq (.block 3
 (.seq (.ops [
 ⟨some 89,none,.mv (.t 87)⟩,⟨some 90,none,.iad 4 (.t 85) (.t 87)⟩,⟨some 91,none,.load 4 true (.t 90)⟩,⟨some 10,none,.alloc 148010 [(.dat (.int .i64 0)),.nil,(.dat (.int .i64 0)),.nil]⟩,⟨some 9,none,.mv (.t 89)⟩,⟨none,none,.store 4 (.t 10) (.t 91)⟩])
 (.opsD [
 ⟨some 92,none,.mv (.t 0)⟩,⟨some 93,none,.nchk (.t 92)⟩,⟨some 94,none,.fad 0 (.t 93)⟩,⟨some 95,none,.load 1 false (.t 94)⟩,⟨some 96,none,.mv (.t 1)⟩,⟨some 97,none,.iad 1 (.t 95) (.t 96)⟩,⟨some 98,none,.load 1 false (.t 97)⟩,⟨some 99,none,.mv (.t 9)⟩,⟨some 100,none,.mv (.t 0)⟩,⟨some 101,none,.load 4 true (.t 10)⟩,⟨some 102,none,.load 4 true (.t 8)⟩,⟨some 103,none,.call id_frac_Div [(.t 101),(.t 102)]⟩,⟨some 104,none,.ext 0 (.t 103)⟩,⟨some 105,none,.ext 1 (.t 103)⟩,⟨some 106,none,.callm 2 id_linear_matrix_note [(.t 100),(.t 104),(.t 105)]⟩,⟨some 107,none,.iad 4 (.t 98) (.t 99)⟩,⟨none,none,.store 4 (.t 107) (.t 106)⟩] [[],[],[],[],[],[],[],[],[],[],[],[],[],[],[3,6],[],[]])))
 (.ops [
 ⟨some 108,none,.bin .add (.t 87) (.c (.dat (.int .i64 1)))⟩,⟨some 87,none,.mv (.t 108)⟩])))))))
 (.seq (.seq (.ops [
 ⟨some 109,none,.mv (.t 0)⟩,⟨some 110,none,.nchk (.t 109)⟩,⟨some 111,none,.fad 0 (.t 110)⟩,⟨some 112,none,.load 1 false (.t 111)⟩,⟨some 113,none,.len (.t 112)⟩,⟨some 114,none,.mv (.c (.dat (.int .i64 0)))⟩])
 (.block 4
 (.loop
 (.seq (.ops [
 ⟨some 115,none,.bin .lss (.t 114) (.t 113)⟩])
 (.seq (.cond (.t 115)
 .skip
 (.exit 4))
 (.seq (.block 5
 (.seq (.ops [
 ⟨some 116,none,.mv (.t 114)⟩,⟨some 117,none,.iad 1 (.t 112) (.t 114)⟩,⟨some 118,none,.load 1 false (.t 117)⟩,⟨some 11,none,.mv (.t 116)⟩,⟨some 12,none,.mv (.t 118)⟩])
 (.seq (.ops [
 ⟨some 119,none,.mv (.t 12)⟩,⟨some 120,none,.mv (.t 2)⟩,⟨some 121,none,.iad 4 (.t 119) (.t 120)⟩,⟨some 122,none,.load 4 true (.t 121)⟩,⟨some 13,none,.alloc 148013 [(.dat (.int .i64 0)),.nil,(.dat (.int .i64 0)),.nil]⟩,⟨none,none,.store 4 (.t 13) (.t 122)⟩])
 (.seq (.seq (.ops [
 ⟨some 123,none,.mv (.t 11)⟩,⟨some 124,none,.mv (.t 1)⟩,⟨some 125,none,.bin .eql (.t 123) (.t 124)⟩,⟨some 126,none,.mv (.t 125)⟩,⟨some 127,some (126,false),.load 4 true (.t 13)⟩,⟨some 128,some (126,false),.call id_linear_zero [(.t 127)]⟩,⟨some 129,none,.pick (.t 126) (.c (.dat (.bool true))) (.t 128)⟩])
 (.cond (.t 129)
 (.exit 5)
 .skip))
 (.seq (.ops [
 ⟨some 14,none,.mv (.c (.dat (.int .i64 0)))⟩])
 (.block 6
 (.loop
 (.seq (.seq (.ops [
 ⟨some 130,none,.mv (.t 14)⟩,⟨some 131,none,.mv (.t 12)⟩,⟨some 132,none,.len (.t 131)⟩,⟨some 133,none,.bin .lss (.t 130) (.t 132)⟩,⟨some 134,none,.mv (.t 133)⟩,⟨some 135,some (134,true),.mv (.t 0)⟩,⟨some 136,some (134,true),.nchk (.t 135)⟩,⟨some 137,some (134,true),.fad 2 (.t 136)⟩,⟨some 138,some (134,true),.load 1 false (.t 137)⟩,⟨some 139,some (134,true),.un .not (.t 138)⟩,⟨some 140,none,.pick (.t 134) (.t 139) (.c (.dat (.bool false)))⟩])
 (.cond (.t 140)
 .skip
 (.exit 6)))
 (.seq (.block 7
 (.opsD [
 ⟨some 143,none,.mv (.t 12)⟩,⟨some 144,none,.mv (.t 14)⟩,⟨some 145,none,.mv (.t 0)⟩,⟨some 146,none,.mv (.t 12)⟩,⟨some 147,none,.mv (.t 14)⟩,⟨some 148,none,.iad 4 (.t 146) (.t 147)⟩,⟨some 149,none,.load 4 true (.t 148)⟩,⟨some 150,none,.mv (.t 0)⟩,⟨some 151,none,.load 4 true (.t 13)⟩,⟨some 152,none,.mv (.t 0)⟩,⟨some 153,none,.nchk (.t 152)⟩,⟨some 154,none,.fad 0 (.t 153)⟩,⟨some 155,none,.load 1 false (.t 154)⟩,⟨some 156,none,.mv (.t 1)⟩,⟨some 157,none,.iad 1 (.t 155) (.t 156)⟩,⟨some 158,none,.load 1 false (.t 157)⟩,⟨some 159,none,.mv (.t 14)⟩,⟨some 160,none,.iad 4 (.t 158) (.t 159)⟩,⟨some 161,none,.load 4 true (.t 160)⟩,⟨some 162,none,.call id_frac_Mul [(.t 151),(.t 161)]⟩,⟨some 163,none,.ext 0 (.t 162)⟩,⟨some 164,none,.ext 1 (.t 162)⟩,⟨some 165,none,.callm 2 id_linear_matrix_note [(.t 150),(.t 163),(.t 164)]⟩,⟨some 166,none,.call id_frac_Sub [(.t 149),(.t 165)]⟩,⟨some 167,none,.ext 0 (.t 166)⟩,⟨some 168,none,.ext 1 (.t 166)⟩,⟨some 169,none,.callm 2 id_linear_matrix_note [(.t 145),(.t 167),(.t 168)]⟩,⟨some 170,none,.iad 4 (.t 143) (.t 144)⟩,⟨none,none,.store 4 (.t 170) (.t 169)⟩] [[],[],[],[],[],[],[],[],[],[],[],[],[],[],[],[],[],[],[],[],[],[],[6],[],[],[],[],[],[]]))
 (.ops [
 ⟨some 141,none,.mv (.t 14)⟩,⟨some 142,none,.bin .add (.t 141) (.c (.dat (.int .i64 1)))⟩,⟨some 14,none,.mv (.t 142)⟩]))))))))))
 (.ops [
 ⟨some 171,none,.bin .add (.t 114) (.c (.dat (.int .i64 1)))⟩,⟨some 114,none,.mv (.t 171)⟩])))))))
 (.seq (.ops [
 ⟨some 6,none,.mv (.c (.dat (.bool false)))⟩])
 .ret))))))))) }
def mf_linear_zero:MFunc :=
 { n:=7,np:=1,res:=[.t 2],body :=
 (.seq (.ops [
 ⟨some 1,none,.box 167001 (.t 0)⟩,⟨some 2,none,.mv (.c (.dat (.bool false)))⟩])
 (.seq (.ops [
 ⟨some 3,none,.fad 0 (.t 1)⟩,⟨some 4,none,.fad 0 (.t 3)⟩,⟨some 5,none,.load 1 false (.t 4)⟩,⟨some 6,none,.bin .eql (.t 5) (.c (.dat (.int .i64 0)))⟩,⟨some 2,none,.mv (.t 6)⟩])
 .ret)) }
def mf_linear_matrix_note:MFunc :=
 { n:=19,np:=3,res:=[.cell 6 4 true],body :=
 (.seq (.ops [
 ⟨some 4,none,.box 168004 (.t 1)⟩,⟨some 6,none,.alloc 168006 [(.dat (.int .i64 0)),.nil,(.dat (.int .i64 0)),.nil]⟩])
 (.seq (.ops [
 ⟨some 7,none,.mv (.t 0)⟩,⟨some 8,none,.mv (.t 0)⟩,⟨some 9,none,.nchk (.t 8)⟩,⟨some 10,none,.fad 2 (.t 9)⟩,⟨some 11,none,.load 1 false (.t 10)⟩,⟨some 12,none,.mv (.t 11)⟩,⟨some 13,some (12,false),.mv (.t 2)⟩,⟨some 14,some (12,false),.bin .neq (.t 13) (.c (.dat (.int .i64 0)))⟩,⟨some 15,none,.pick (.t 12) (.c (.dat (.bool true))) (.t 14)⟩,⟨some 16,none,.nchk (.t 7)⟩,⟨some 17,none,.fad 2 (.t 16)⟩,⟨none,none,.store 1 (.t 17) (.t 15)⟩])
 (.seq (.ops [
 ⟨some 18,none,.load 4 true (.t 4)⟩,⟨none,none,.store 4 (.t 6) (.t 18)⟩])
 .ret))) }
end Go.Mini
namespace Go.Mini
open Go
set_option maxRecDepth 10000
set_option maxHeartbeats 2000000
abbrev RowD:=List FRaw × FRaw
def rowL (r:RowD):List Data:=.sl (r.1.map fracL)::fracL r.2
theorem fracL_len (f:FRaw):(fracL f).length=4:=rfl
theorem rowL_len (r:RowD):(rowL r).length=5:=rfl
theorem fracL_one (f:FRaw):((fracL f).map MV.dat).all MV.one=true:=rfl
theorem fracL_inj:∀ a b:FRaw,fracL a=fracL b→a=b:=by
 rintro⟨⟨s,l⟩,⟨s2,l2⟩⟩ ⟨⟨t,m⟩,⟨t2,m2⟩⟩ h
 simp only[fracL,yM,Data.int.injEq,Data.sl.injEq,true_and,and_true] at h
 obtain⟨rfl,h1,rfl,h2⟩:=h
 rw[map_inj i64L_inj _ _ h1,map_inj i64L_inj _ _ h2]
theorem rowL_inj:∀ a b:RowD,rowL a=rowL b→a=b:=by
 rintro⟨a,b⟩ ⟨c,d⟩ h
 simp only[rowL,yM,Data.sl.injEq] at h
 rw[map_inj fracL_inj _ _ h.1,fracL_inj _ _ h.2]
def okF (f:FRaw):Prop:=f.1.2.length≤1000000∧f.2.2.length≤1000000
def okL (l:List FRaw):Prop:=l.length≤1000000∧∀ f∈l,okF f
def okRow (r:RowD):Prop:=okL r.1∧okF r.2
def okRows (rs:List RowD):Prop:=rs.length≤1000000∧∀ r∈rs,okRow r
noncomputable def F_wrong1:List Data→Option PRes:=FF (α:=Int × (List Int) × Int × (List Int)) (fun (s,l,s2,l2)=>([.agg [.int .i64 s,.sl (l.map i64L),.int .i64 s2,.sl (l2.map i64L)]]:List Data)) (fun (s,l,s2,l2)=>onlyIf (l.length≤1000000∧l2.length≤1000000) (.same (.bool (!rightF ((s,l),(s2,l2))))))
theorem F_wrong1_inj:∀ a b:Int × (List Int) × Int × (List Int),(fun (s,l,s2,l2)=>([.agg [.int .i64 s,.sl (l.map i64L),.int .i64 s2,.sl (l2.map i64L)]]:List Data)) a=(fun (s,l,s2,l2)=>([.agg [.int .i64 s,.sl (l.map i64L),.int .i64 s2,.sl (l2.map i64L)]]:List Data)) b→a=b:=by
  rintro⟨s1,l1,s21,l21⟩ ⟨s2,l2,s22,l22⟩ h
  simp only[yM,Data.agg.injEq,Data.int.injEq,Data.sl.injEq] at h;exact Prod.ext h.1.1.2 (Prod.ext (map_inj i64L_inj _ _ h.1.2.1) (Prod.ext h.1.2.2.1.2 (map_inj i64L_inj _ _ h.1.2.2.2.1)))
@[go_sem] theorem F_wrong1_eq (s:Int) (l:List Int) (s2:Int) (l2:List Int) (hc:l.length≤1000000∧l2.length≤1000000):F_wrong1 [.agg [.int .i64 s,.sl (l.map i64L),.int .i64 s2,.sl (l2.map i64L)]]=some (.same (.bool (!rightF ((s,l),(s2,l2))))):=(FF_eq F_wrong1_inj (s,l,s2,l2)).trans (onlyIf_pos hc _)
theorem w_wrong1 (T:Tab) (h_fRight:T id_frac_Right=mkE F_fRight) (s:Int) (l:List Int) (s2:Int) (l2:List Int) (hc:l.length≤1000000∧l2.length≤1000000) :
  wp T mf_linear_Right_1.body (endS mf_linear_Right_1.res (.same (.bool (!rightF ((s,l),(s2,l2)))))) ⟨initTm [.dat (.agg [.int .i64 s,.sl (l.map i64L),.int .i64 s2,.sl (l2.map i64L)])],emp⟩:=by
 refine wp_start ?_
 simp only[mf_linear_Right_1]
 obtain⟨hl1,hl2⟩:=hc
 simp only[go_sem,reduceIte,yA,yB,yC,yD,yE,yH,reduceCtorEq,yF,yG,yI,h_fRight,hl1,hl2]
 repeat' (first|refine qqA ?_ ?_|refine qqB ?_ ?_|refine qqC ?_ ?_|refine qqD ?_ ?_|refine qqE ?_ ?_|refine qqF ?_ ?_)<;>intro h<;>simp only[h,go_sem,reduceIte,yA,yB,yC,yD,yE,yH,reduceCtorEq,yF,yG,yI,h_fRight,hl1,hl2]
noncomputable def F_wrong2:List Data→Option PRes:=FF (α:=Int × (List Int) × Int × (List Int)) (fun (s,l,s2,l2)=>([.agg [.int .i64 s,.sl (l.map i64L),.int .i64 s2,.sl (l2.map i64L)]]:List Data)) (fun (s,l,s2,l2)=>onlyIf (l.length≤1000000∧l2.length≤1000000) (.same (.bool (!rightF ((s,l),(s2,l2))))))
theorem F_wrong2_inj:∀ a b:Int × (List Int) × Int × (List Int),(fun (s,l,s2,l2)=>([.agg [.int .i64 s,.sl (l.map i64L),.int .i64 s2,.sl (l2.map i64L)]]:List Data)) a=(fun (s,l,s2,l2)=>([.agg [.int .i64 s,.sl (l.map i64L),.int .i64 s2,.sl (l2.map i64L)]]:List Data)) b→a=b:=by
  rintro⟨s1,l1,s21,l21⟩ ⟨s2,l2,s22,l22⟩ h
  simp only[yM,Data.agg.injEq,Data.int.injEq,Data.sl.injEq] at h;exact Prod.ext h.1.1.2 (Prod.ext (map_inj i64L_inj _ _ h.1.2.1) (Prod.ext h.1.2.2.1.2 (map_inj i64L_inj _ _ h.1.2.2.2.1)))
@[go_sem] theorem F_wrong2_eq (s:Int) (l:List Int) (s2:Int) (l2:List Int) (hc:l.length≤1000000∧l2.length≤1000000):F_wrong2 [.agg [.int .i64 s,.sl (l.map i64L),.int .i64 s2,.sl (l2.map i64L)]]=some (.same (.bool (!rightF ((s,l),(s2,l2))))):=(FF_eq F_wrong2_inj (s,l,s2,l2)).trans (onlyIf_pos hc _)
theorem w_wrong2 (T:Tab) (h_fRight:T id_frac_Right=mkE F_fRight) (s:Int) (l:List Int) (s2:Int) (l2:List Int) (hc:l.length≤1000000∧l2.length≤1000000) :
  wp T mf_linear_Check_1.body (endS mf_linear_Check_1.res (.same (.bool (!rightF ((s,l),(s2,l2)))))) ⟨initTm [.dat (.agg [.int .i64 s,.sl (l.map i64L),.int .i64 s2,.sl (l2.map i64L)])],emp⟩:=by
 refine wp_start ?_
 simp only[mf_linear_Check_1]
 obtain⟨hl1,hl2⟩:=hc
 simp only[go_sem,reduceIte,yA,yB,yC,yD,yE,yH,reduceCtorEq,yF,yG,yI,h_fRight,hl1,hl2]
 repeat' (first|refine qqA ?_ ?_|refine qqB ?_ ?_|refine qqC ?_ ?_|refine qqD ?_ ?_|refine qqE ?_ ?_|refine qqF ?_ ?_)<;>intro h<;>simp only[h,go_sem,reduceIte,yA,yB,yC,yD,yE,yH,reduceCtorEq,yF,yG,yI,h_fRight,hl1,hl2]
/-- The first place of a list of which p holds, or -1. -/
def ixOf {α:Type} (p:α→Bool) (l:List α):Int:=match l.findIdx? p with
 | some i=>i
 | none => -1
theorem ixOf_at {α:Type} {p:α→Bool} {l:List α} {i:Nat} (h:∀ x∈l.take i,p x=false) {x:α} (hx:l[i]?=some x) (hp:p x=true):ixOf p l=i:=by
 unfold ixOf
 have:l.findIdx? p=some i:=by
  rw[List.findIdx?_eq_some_iff_getElem]
  obtain⟨hlt,rfl⟩:=List.getElem?_eq_some_iff.1 hx
  refine⟨hlt,hp,fun j hj=>?_⟩
  have:=h l[j] (List.mem_iff_getElem?.2 ⟨j,by rw[List.getElem?_take_of_lt hj];exact yL _⟩)
  rw[this];decide
 rw[this]
theorem ixOf_none {α:Type} {p:α→Bool} {l:List α} (h:∀ x∈l,p x=false):ixOf p l = -1:=by
 unfold ixOf
 rw[List.findIdx?_eq_none_iff.2 h]
theorem ixOf_any {α:Type} (p:α→Bool) (l:List α):decide (ixOf p l≥0)=l.any p:=by
 unfold ixOf
 cases h:l.findIdx? p with
 | none =>
  have:=List.findIdx?_eq_none_iff.1 h
  have h2:l.any p=false:=by rw[List.any_eq_false];intro x hx;simp [this x hx]
  rw[h2];rfl
 | some i =>
  rw[List.findIdx?_eq_some_iff_getElem] at h
  obtain⟨h1,h2,-⟩:=h
  have h3:l.any p=true:=List.any_eq_true.2 ⟨_,List.getElem_mem h1,h2⟩
  rw[h3]
  exact decide_eq_true (by simp)
def badF (f:FRaw):Bool:=!rightF f
theorem take_succ_all {α:Type} {p:α→Bool} {l:List α} {i:Nat} (h:∀ x∈l.take i,p x=false) {x:α} (hx:l[i]?=some x) (hp:p x=false):∀ y∈l.take (i+1),p y=false:=by
 intro y hy
 rw[List.take_add_one,hx] at hy
 simp only[Option.toList_some,List.mem_append,List.mem_singleton] at hy
 rcases hy with hy | rfl
 ·exact h y hy
 ·exact hp
noncomputable def F_ixFrac:List Data→Option PRes:=FF (α:=(List FRaw) × FuncId) (fun (l,f)=>([.sl (l.map fracL),.fn f []]:List Data)) (fun (l,f)=>onlyIf (okL l∧(f=id_linear_Right_1∨f=id_linear_Check_1)) (.same (.int .i64 (ixOf badF l))))
theorem F_ixFrac_inj:∀ a b:(List FRaw) × FuncId,(fun (l,f)=>([.sl (l.map fracL),.fn f []]:List Data)) a=(fun (l,f)=>([.sl (l.map fracL),.fn f []]:List Data)) b→a=b:=by
  rintro⟨l1,f1⟩ ⟨l2,f2⟩ h
  simp only[yM,Data.sl.injEq,Data.fn.injEq] at h;exact Prod.ext (map_inj fracL_inj _ _ h.1) h.2.1.1
@[go_sem] theorem F_ixFrac_eq (l:List FRaw) (f:FuncId) (hc:okL l∧(f=id_linear_Right_1∨f=id_linear_Check_1)):F_ixFrac [.sl (l.map fracL),.fn f []]=some (.same (.int .i64 (ixOf badF l))):=(FF_eq F_ixFrac_inj (l,f)).trans (onlyIf_pos hc _)
theorem w_ixFrac (T:Tab) (h_wrong1:T id_linear_Right_1=mkE F_wrong1) (h_wrong2:T id_linear_Check_1=mkE F_wrong2) (l:List FRaw) (f:FuncId) (hc:okL l∧(f=id_linear_Right_1∨f=id_linear_Check_1)) :
  wp T mf_slices_IndexFunc_Frac.body (endS mf_slices_IndexFunc_Frac.res (.same (.int .i64 (ixOf badF l)))) ⟨initTm [.dat (.sl (l.map fracL)),.dat (.fn f [])],emp⟩:=by
 refine wp_start ?_
 simp only[mf_slices_IndexFunc_Frac]
 obtain⟨⟨hl,hok⟩,hf⟩:=hc
 simp only[go_sem,reduceIte,yA,yB,yC,yD,yE,yH,reduceCtorEq,yF,yG,yI,h_wrong1,h_wrong2,yJ]
 refine wp_loop_keep [0,1,7] [] (fun (i:Nat) tm mem=>i≤l.length∧(∀ x∈l.take i,badF x=false)∧tm 8 = .dat (.int .i64 i)) (fun i=>l.length-i) 0 (by refine⟨Nat.zero_le _,?_,rfl⟩;simp) ?_
 intro vs ms hvs hms
 simp only[go_sem,reduceIte,yA,yB,yC,yD,yE,yH,reduceCtorEq,yF,yG,yI,h_wrong1,h_wrong2,yJ] at hvs hms
 subst hvs hms
 rintro i tm mem hk hm ⟨hi,hall,h8⟩
 simp only[go_sem,reduceIte,yA,yB,yC,yD,yE,yH,reduceCtorEq,yF,yG,yI,h_wrong1,h_wrong2,yM] at hk hm
 obtain⟨h0,h1,h7⟩:=hk
 rcases Decidable.em (i<l.length) with hlt | hge
 ·have hx:=yL hlt
  obtain⟨hx1,hx2⟩:=hok _ (List.getElem_mem hlt)
  have hat:=fun h=>ixOf_at (p:=badF) hall hx h
  have hnx:=fun h=>take_succ_all (p:=badF) hall hx h
  generalize l[i]=x at *
  have hlt':decide ((i:Int)<(l.length:Int))=true:=decide_eq_true (by omega)
  have hw:IntKind.i64.wrap ((i:Int)+1)=((i+1:Nat):Int):=by rw[wrap64 _ (by omega) (by omega)];omega
  obtain⟨⟨x1,x2⟩,⟨x3,x4⟩⟩:=x
  dsimp only at hx1 hx2
  rcases hb:badF ((x1,x2),(x3,x4))
  ·have hr:rightF ((x1,x2),(x3,x4))=true:=by unfold badF at hb;simpa using hb
   rcases hf with rfl | rfl
   ·simp only[go_sem,reduceIte,yA,yB,yC,yD,yE,yH,reduceCtorEq,yF,yG,yI,h_wrong1,h_wrong2,h0,h1,h7,h8,hx,hlt',hw,hx1,hx2,hr,yJ,yK,fracL]
    repeat' (first|refine qqA ?_ ?_|refine qqB ?_ ?_|refine qqC ?_ ?_|refine qqD ?_ ?_|refine qqE ?_ ?_|refine qqF ?_ ?_)<;>intro h<;>simp only[h,go_sem,reduceIte,yA,yB,yC,yD,yE,yH,reduceCtorEq,yF,yG,yI,h_wrong1,h_wrong2,h0,h1,h7,h8,hx,hlt',hw,hx1,hx2,hr,yJ,yK,fracL]
    exact⟨i+1,by omega,by omega,hnx hb,rfl⟩
   ·simp only[go_sem,reduceIte,yA,yB,yC,yD,yE,yH,reduceCtorEq,yF,yG,yI,h_wrong1,h_wrong2,h0,h1,h7,h8,hx,hlt',hw,hx1,hx2,hr,yJ,yK,fracL]
    repeat' (first|refine qqA ?_ ?_|refine qqB ?_ ?_|refine qqC ?_ ?_|refine qqD ?_ ?_|refine qqE ?_ ?_|refine qqF ?_ ?_)<;>intro h<;>simp only[h,go_sem,reduceIte,yA,yB,yC,yD,yE,yH,reduceCtorEq,yF,yG,yI,h_wrong1,h_wrong2,h0,h1,h7,h8,hx,hlt',hw,hx1,hx2,hr,yJ,yK,fracL]
    exact⟨i+1,by omega,by omega,hnx hb,rfl⟩
  ·have hr:rightF ((x1,x2),(x3,x4))=false:=by unfold badF at hb;simpa using hb
   rw[hat hb]
   rcases hf with rfl | rfl
   ·simp only[go_sem,reduceIte,yA,yB,yC,yD,yE,yH,reduceCtorEq,yF,yG,yI,h_wrong1,h_wrong2,h0,h1,h7,h8,hx,hlt',hw,hx1,hx2,hr,yJ,yK,fracL]
    repeat' (first|refine qqA ?_ ?_|refine qqB ?_ ?_|refine qqC ?_ ?_|refine qqD ?_ ?_|refine qqE ?_ ?_|refine qqF ?_ ?_)<;>intro h<;>simp only[h,go_sem,reduceIte,yA,yB,yC,yD,yE,yH,reduceCtorEq,yF,yG,yI,h_wrong1,h_wrong2,h0,h1,h7,h8,hx,hlt',hw,hx1,hx2,hr,yJ,yK,fracL]
   ·simp only[go_sem,reduceIte,yA,yB,yC,yD,yE,yH,reduceCtorEq,yF,yG,yI,h_wrong1,h_wrong2,h0,h1,h7,h8,hx,hlt',hw,hx1,hx2,hr,yJ,yK,fracL]
    repeat' (first|refine qqA ?_ ?_|refine qqB ?_ ?_|refine qqC ?_ ?_|refine qqD ?_ ?_|refine qqE ?_ ?_|refine qqF ?_ ?_)<;>intro h<;>simp only[h,go_sem,reduceIte,yA,yB,yC,yD,yE,yH,reduceCtorEq,yF,yG,yI,h_wrong1,h_wrong2,h0,h1,h7,h8,hx,hlt',hw,hx1,hx2,hr,yJ,yK,fracL]
 ·have hlt':decide ((i:Int)<(l.length:Int))=false:=decide_eq_false (by omega)
  have hil:i=l.length:=by omega
  subst hil
  rw[List.take_length] at hall
  rw[ixOf_none hall]
  simp only[go_sem,reduceIte,yA,yB,yC,yD,yE,yH,reduceCtorEq,yF,yG,yI,h_wrong1,h_wrong2,h0,h1,h7,h8,hlt',yJ]
  repeat' (first|refine qqA ?_ ?_|refine qqB ?_ ?_|refine qqC ?_ ?_|refine qqD ?_ ?_|refine qqE ?_ ?_|refine qqF ?_ ?_)<;>intro h<;>simp only[h,go_sem,reduceIte,yA,yB,yC,yD,yE,yH,reduceCtorEq,yF,yG,yI,h_wrong1,h_wrong2,h0,h1,h7,h8,hlt',yJ]
noncomputable def F_anyFrac:List Data→Option PRes:=FF (α:=(List FRaw) × FuncId) (fun (l,f)=>([.sl (l.map fracL),.fn f []]:List Data)) (fun (l,f)=>onlyIf (okL l∧(f=id_linear_Right_1∨f=id_linear_Check_1)) (.same (.bool (l.any badF))))
theorem F_anyFrac_inj:∀ a b:(List FRaw) × FuncId,(fun (l,f)=>([.sl (l.map fracL),.fn f []]:List Data)) a=(fun (l,f)=>([.sl (l.map fracL),.fn f []]:List Data)) b→a=b:=by
  rintro⟨l1,f1⟩ ⟨l2,f2⟩ h
  simp only[yM,Data.sl.injEq,Data.fn.injEq] at h;exact Prod.ext (map_inj fracL_inj _ _ h.1) h.2.1.1
@[go_sem] theorem F_anyFrac_eq (l:List FRaw) (f:FuncId) (hc:okL l∧(f=id_linear_Right_1∨f=id_linear_Check_1)):F_anyFrac [.sl (l.map fracL),.fn f []]=some (.same (.bool (l.any badF))):=(FF_eq F_anyFrac_inj (l,f)).trans (onlyIf_pos hc _)
theorem w_anyFrac (T:Tab) (h_ixFrac:T id_slices_IndexFunc_Frac=mkE F_ixFrac) (l:List FRaw) (f:FuncId) (hc:okL l∧(f=id_linear_Right_1∨f=id_linear_Check_1)) :
  wp T mf_slices_ContainsFunc_Frac.body (endS mf_slices_ContainsFunc_Frac.res (.same (.bool (l.any badF)))) ⟨initTm [.dat (.sl (l.map fracL)),.dat (.fn f [])],emp⟩:=by
 refine wp_start ?_
 simp only[mf_slices_ContainsFunc_Frac]
 rw[←ixOf_any]
 simp only[go_sem,reduceIte,yA,yB,yC,yD,yE,yH,reduceCtorEq,yF,yG,yI,h_ixFrac,hc]
 repeat' (first|refine qqA ?_ ?_|refine qqB ?_ ?_|refine qqC ?_ ?_|refine qqD ?_ ?_|refine qqE ?_ ?_|refine qqF ?_ ?_)<;>intro h<;>simp only[h,go_sem,reduceIte,yA,yB,yC,yD,yE,yH,reduceCtorEq,yF,yG,yI,h_ixFrac,hc]
/-- Is a row not one of n right elements, with a right value? -/
def badRow (n:Int) (r:RowD):Bool:=!(((r.1.length:Int)==n)&&(rightF r.2 && !(r.1.any badF)))
noncomputable def F_wrongRow:List Data→Option PRes:=FF (α:=(List FRaw) × Int × (List Int) × Int × (List Int) × Int) (fun (a,s,l,s2,l2,n)=>([.agg [.sl (a.map fracL),.int .i64 s,.sl (l.map i64L),.int .i64 s2,.sl (l2.map i64L)],.ptr [.int .i64 n],.ptr [.fn id_linear_Right_1 []]]:List Data)) (fun (a,s,l,s2,l2,n)=>onlyIf (okL a∧l.length≤1000000∧l2.length≤1000000) (.same (.bool (badRow n (a,((s,l),(s2,l2)))))))
theorem F_wrongRow_inj:∀ a b:(List FRaw) × Int × (List Int) × Int × (List Int) × Int,(fun (a,s,l,s2,l2,n)=>([.agg [.sl (a.map fracL),.int .i64 s,.sl (l.map i64L),.int .i64 s2,.sl (l2.map i64L)],.ptr [.int .i64 n],.ptr [.fn id_linear_Right_1 []]]:List Data)) a=(fun (a,s,l,s2,l2,n)=>([.agg [.sl (a.map fracL),.int .i64 s,.sl (l.map i64L),.int .i64 s2,.sl (l2.map i64L)],.ptr [.int .i64 n],.ptr [.fn id_linear_Right_1 []]]:List Data)) b→a=b:=by
  rintro⟨a1,s1,l1,s21,l21,n1⟩ ⟨a2,s2,l2,s22,l22,n2⟩ h
  simp only[yM,Data.agg.injEq,Data.int.injEq,Data.sl.injEq,Data.ptr.injEq] at h;exact Prod.ext (map_inj fracL_inj _ _ h.1.1) (Prod.ext h.1.2.1.2 (Prod.ext (map_inj i64L_inj _ _ h.1.2.2.1) (Prod.ext h.1.2.2.2.1.2 (Prod.ext (map_inj i64L_inj _ _ h.1.2.2.2.2.1) h.2.1.1.2))))
@[go_sem] theorem F_wrongRow_eq (a:List FRaw) (s:Int) (l:List Int) (s2:Int) (l2:List Int) (n:Int) (hc:okL a∧l.length≤1000000∧l2.length≤1000000):F_wrongRow [.agg [.sl (a.map fracL),.int .i64 s,.sl (l.map i64L),.int .i64 s2,.sl (l2.map i64L)],.ptr [.int .i64 n],.ptr [.fn id_linear_Right_1 []]]=some (.same (.bool (badRow n (a,((s,l),(s2,l2)))))):=(FF_eq F_wrongRow_inj (a,s,l,s2,l2,n)).trans (onlyIf_pos hc _)
theorem w_wrongRow (T:Tab) (h_wrong1:T id_linear_Right_1=mkE F_wrong1) (h_anyFrac:T id_slices_ContainsFunc_Frac=mkE F_anyFrac) (a:List FRaw) (s:Int) (l:List Int) (s2:Int) (l2:List Int) (n:Int) (hc:okL a∧l.length≤1000000∧l2.length≤1000000) :
  wp T mf_linear_Right_2.body (endS mf_linear_Right_2.res (.same (.bool (badRow n (a,((s,l),(s2,l2))))))) ⟨initTm [.dat (.agg [.sl (a.map fracL),.int .i64 s,.sl (l.map i64L),.int .i64 s2,.sl (l2.map i64L)]),.dat (.ptr [.int .i64 n]),.dat (.ptr [.fn id_linear_Right_1 []])],emp⟩:=by
 refine wp_start ?_
 simp only[mf_linear_Right_2]
 obtain⟨ha,hl1,hl2⟩:=hc
 unfold badRow
 rcases h1:((a.length:Int)==n)
 ·simp only[go_sem,reduceIte,yA,yB,yC,yD,yE,yH,reduceCtorEq,yF,yG,yI,h_wrong1,h_anyFrac,ha,hl1,hl2,h1,yJ]
  repeat' (first|refine qqA ?_ ?_|refine qqB ?_ ?_|refine qqC ?_ ?_|refine qqD ?_ ?_|refine qqE ?_ ?_|refine qqF ?_ ?_)<;>intro h<;>simp only[h,go_sem,reduceIte,yA,yB,yC,yD,yE,yH,reduceCtorEq,yF,yG,yI,h_wrong1,h_anyFrac,ha,hl1,hl2,h1,yJ]
 ·rcases h2:rightF ((s,l),(s2,l2))
  ·simp only[go_sem,reduceIte,yA,yB,yC,yD,yE,yH,reduceCtorEq,yF,yG,yI,h_wrong1,h_anyFrac,ha,hl1,hl2,h1,h2,yJ]
   repeat' (first|refine qqA ?_ ?_|refine qqB ?_ ?_|refine qqC ?_ ?_|refine qqD ?_ ?_|refine qqE ?_ ?_|refine qqF ?_ ?_)<;>intro h<;>simp only[h,go_sem,reduceIte,yA,yB,yC,yD,yE,yH,reduceCtorEq,yF,yG,yI,h_wrong1,h_anyFrac,ha,hl1,hl2,h1,h2,yJ]
  ·simp only[go_sem,reduceIte,yA,yB,yC,yD,yE,yH,reduceCtorEq,yF,yG,yI,h_wrong1,h_anyFrac,ha,hl1,hl2,h1,h2,yJ,show (id_linear_Right_1=id_linear_Right_1)=True from by simp,true_or,Bool.not_not]
   repeat' (first|refine qqA ?_ ?_|refine qqB ?_ ?_|refine qqC ?_ ?_|refine qqD ?_ ?_|refine qqE ?_ ?_|refine qqF ?_ ?_)<;>intro h<;>simp only[h,go_sem,reduceIte,yA,yB,yC,yD,yE,yH,reduceCtorEq,yF,yG,yI,h_wrong1,h_anyFrac,ha,hl1,hl2,h1,h2,yJ,show (id_linear_Right_1=id_linear_Right_1)=True from by simp,true_or,Bool.not_not]
noncomputable def F_ixRow:List Data→Option PRes:=FF (α:=(List RowD) × Int) (fun (rs,n)=>([.sl (rs.map rowL),.fn id_linear_Right_2 [.ptr [.int .i64 n],.ptr [.fn id_linear_Right_1 []]]]:List Data)) (fun (rs,n)=>onlyIf (okRows rs) (.same (.int .i64 (ixOf (badRow n) rs))))
theorem F_ixRow_inj:∀ a b:(List RowD) × Int,(fun (rs,n)=>([.sl (rs.map rowL),.fn id_linear_Right_2 [.ptr [.int .i64 n],.ptr [.fn id_linear_Right_1 []]]]:List Data)) a=(fun (rs,n)=>([.sl (rs.map rowL),.fn id_linear_Right_2 [.ptr [.int .i64 n],.ptr [.fn id_linear_Right_1 []]]]:List Data)) b→a=b:=by
  rintro⟨rs1,n1⟩ ⟨rs2,n2⟩ h
  simp only[yM,Data.sl.injEq,Data.fn.injEq,Data.ptr.injEq,Data.int.injEq] at h;exact Prod.ext (map_inj rowL_inj _ _ h.1) h.2.1.2.1.1.2
@[go_sem] theorem F_ixRow_eq (rs:List RowD) (n:Int) (hc:okRows rs):F_ixRow [.sl (rs.map rowL),.fn id_linear_Right_2 [.ptr [.int .i64 n],.ptr [.fn id_linear_Right_1 []]]]=some (.same (.int .i64 (ixOf (badRow n) rs))):=(FF_eq F_ixRow_inj (rs,n)).trans (onlyIf_pos hc _)
theorem w_ixRow (T:Tab) (h_wrongRow:T id_linear_Right_2=mkE F_wrongRow) (rs:List RowD) (n:Int) (hc:okRows rs) :
  wp T mf_slices_IndexFunc_Row.body (endS mf_slices_IndexFunc_Row.res (.same (.int .i64 (ixOf (badRow n) rs)))) ⟨initTm [.dat (.sl (rs.map rowL)),.dat (.fn id_linear_Right_2 [.ptr [.int .i64 n],.ptr [.fn id_linear_Right_1 []]])],emp⟩:=by
 refine wp_start ?_
 simp only[mf_slices_IndexFunc_Row]
 obtain⟨hl,hok⟩:=hc
 simp only[go_sem,reduceIte,yA,yB,yC,yD,yE,yH,reduceCtorEq,yF,yG,yI,h_wrongRow,yJ]
 refine wp_loop_keep [0,1,7] [] (fun (i:Nat) tm mem=>i≤rs.length∧(∀ x∈rs.take i,badRow n x=false)∧tm 8 = .dat (.int .i64 i)) (fun i=>rs.length-i) 0 (by refine⟨Nat.zero_le _,?_,rfl⟩;simp) ?_
 intro vs ms hvs hms
 simp only[go_sem,reduceIte,yA,yB,yC,yD,yE,yH,reduceCtorEq,yF,yG,yI,h_wrongRow,yJ] at hvs hms
 subst hvs hms
 rintro i tm mem hk hm ⟨hi,hall,h8⟩
 simp only[go_sem,reduceIte,yA,yB,yC,yD,yE,yH,reduceCtorEq,yF,yG,yI,h_wrongRow,yM] at hk hm
 obtain⟨h0,h1,h7⟩:=hk
 rcases Decidable.em (i<rs.length) with hlt | hge
 ·have hx:=yL hlt
  obtain⟨hx0,hx1,hx2⟩:=hok _ (List.getElem_mem hlt)
  have hat:=fun h=>ixOf_at (p:=badRow n) hall hx h
  have hnx:=fun h=>take_succ_all (p:=badRow n) hall hx h
  generalize rs[i]=x at *
  have hlt':decide ((i:Int)<(rs.length:Int))=true:=decide_eq_true (by omega)
  have hw:IntKind.i64.wrap ((i:Int)+1)=((i+1:Nat):Int):=by rw[wrap64 _ (by omega) (by omega)];omega
  obtain⟨a,⟨x1,x2⟩,⟨x3,x4⟩⟩:=x
  dsimp only at hx0 hx1 hx2
  rcases hb:badRow n (a,((x1,x2),(x3,x4)))
  ·simp only[go_sem,reduceIte,yA,yB,yC,yD,yE,yH,reduceCtorEq,yF,yG,yI,h_wrongRow,h0,h1,h7,h8,hx,hlt',hw,hx0,hx1,hx2,hb,yJ,yK,rowL,fracL]
   repeat' (first|refine qqA ?_ ?_|refine qqB ?_ ?_|refine qqC ?_ ?_|refine qqD ?_ ?_|refine qqE ?_ ?_|refine qqF ?_ ?_)<;>intro h<;>simp only[h,go_sem,reduceIte,yA,yB,yC,yD,yE,yH,reduceCtorEq,yF,yG,yI,h_wrongRow,h0,h1,h7,h8,hx,hlt',hw,hx0,hx1,hx2,hb,yJ,yK,rowL,fracL]
   exact⟨i+1,by omega,by omega,hnx hb,rfl⟩
  ·rw[hat hb]
   simp only[go_sem,reduceIte,yA,yB,yC,yD,yE,yH,reduceCtorEq,yF,yG,yI,h_wrongRow,h0,h1,h7,h8,hx,hlt',hw,hx0,hx1,hx2,hb,yJ,yK,rowL,fracL]
   repeat' (first|refine qqA ?_ ?_|refine qqB ?_ ?_|refine qqC ?_ ?_|refine qqD ?_ ?_|refine qqE ?_ ?_|refine qqF ?_ ?_)<;>intro h<;>simp only[h,go_sem,reduceIte,yA,yB,yC,yD,yE,yH,reduceCtorEq,yF,yG,yI,h_wrongRow,h0,h1,h7,h8,hx,hlt',hw,hx0,hx1,hx2,hb,yJ,yK,rowL,fracL]
 ·have hlt':decide ((i:Int)<(rs.length:Int))=false:=decide_eq_false (by omega)
  have hil:i=rs.length:=by omega
  subst hil
  rw[List.take_length] at hall
  rw[ixOf_none hall]
  simp only[go_sem,reduceIte,yA,yB,yC,yD,yE,yH,reduceCtorEq,yF,yG,yI,h_wrongRow,h0,h1,h7,h8,hlt',yJ]
  repeat' (first|refine qqA ?_ ?_|refine qqB ?_ ?_|refine qqC ?_ ?_|refine qqD ?_ ?_|refine qqE ?_ ?_|refine qqF ?_ ?_)<;>intro h<;>simp only[h,go_sem,reduceIte,yA,yB,yC,yD,yE,yH,reduceCtorEq,yF,yG,yI,h_wrongRow,h0,h1,h7,h8,hlt',yJ]
noncomputable def F_anyRow:List Data→Option PRes:=FF (α:=(List RowD) × Int) (fun (rs,n)=>([.sl (rs.map rowL),.fn id_linear_Right_2 [.ptr [.int .i64 n],.ptr [.fn id_linear_Right_1 []]]]:List Data)) (fun (rs,n)=>onlyIf (okRows rs) (.same (.bool (rs.any (badRow n)))))
theorem F_anyRow_inj:∀ a b:(List RowD) × Int,(fun (rs,n)=>([.sl (rs.map rowL),.fn id_linear_Right_2 [.ptr [.int .i64 n],.ptr [.fn id_linear_Right_1 []]]]:List Data)) a=(fun (rs,n)=>([.sl (rs.map rowL),.fn id_linear_Right_2 [.ptr [.int .i64 n],.ptr [.fn id_linear_Right_1 []]]]:List Data)) b→a=b:=by
  rintro⟨rs1,n1⟩ ⟨rs2,n2⟩ h
  simp only[yM,Data.sl.injEq,Data.fn.injEq,Data.ptr.injEq,Data.int.injEq] at h;exact Prod.ext (map_inj rowL_inj _ _ h.1) h.2.1.2.1.1.2
@[go_sem] theorem F_anyRow_eq (rs:List RowD) (n:Int) (hc:okRows rs):F_anyRow [.sl (rs.map rowL),.fn id_linear_Right_2 [.ptr [.int .i64 n],.ptr [.fn id_linear_Right_1 []]]]=some (.same (.bool (rs.any (badRow n)))):=(FF_eq F_anyRow_inj (rs,n)).trans (onlyIf_pos hc _)
theorem w_anyRow (T:Tab) (h_ixRow:T id_slices_IndexFunc_Row=mkE F_ixRow) (rs:List RowD) (n:Int) (hc:okRows rs) :
  wp T mf_slices_ContainsFunc_Row.body (endS mf_slices_ContainsFunc_Row.res (.same (.bool (rs.any (badRow n))))) ⟨initTm [.dat (.sl (rs.map rowL)),.dat (.fn id_linear_Right_2 [.ptr [.int .i64 n],.ptr [.fn id_linear_Right_1 []]])],emp⟩:=by
 refine wp_start ?_
 simp only[mf_slices_ContainsFunc_Row]
 rw[←ixOf_any]
 simp only[go_sem,reduceIte,yA,yB,yC,yD,yE,yH,reduceCtorEq,yF,yG,yI,h_ixRow,hc]
 repeat' (first|refine qqA ?_ ?_|refine qqB ?_ ?_|refine qqC ?_ ?_|refine qqD ?_ ?_|refine qqE ?_ ?_|refine qqF ?_ ?_)<;>intro h<;>simp only[h,go_sem,reduceIte,yA,yB,yC,yD,yE,yH,reduceCtorEq,yF,yG,yI,h_ixRow,hc]
/-- Are rows a system of n unknowns? -/
def rightS (rs:List RowD) (n:Int):Bool:=!(decide (n<0))&&(!(decide (n>40))&&(((rs.length:Int)==n) && !(rs.any (badRow n))))
noncomputable def F_linRight:List Data→Option PRes:=FF (α:=(List RowD) × Int) (fun (rs,n)=>([.sl (rs.map rowL),.int .i64 n]:List Data)) (fun (rs,n)=>onlyIf (okRows rs) (.same (.bool (rightS rs n))))
theorem F_linRight_inj:∀ a b:(List RowD) × Int,(fun (rs,n)=>([.sl (rs.map rowL),.int .i64 n]:List Data)) a=(fun (rs,n)=>([.sl (rs.map rowL),.int .i64 n]:List Data)) b→a=b:=by
  rintro⟨rs1,n1⟩ ⟨rs2,n2⟩ h
  simp only[yM,Data.sl.injEq,Data.int.injEq] at h;exact Prod.ext (map_inj rowL_inj _ _ h.1) h.2.1.2
@[go_sem] theorem F_linRight_eq (rs:List RowD) (n:Int) (hc:okRows rs):F_linRight [.sl (rs.map rowL),.int .i64 n]=some (.same (.bool (rightS rs n))):=(FF_eq F_linRight_inj (rs,n)).trans (onlyIf_pos hc _)
theorem w_linRight (T:Tab) (h_anyRow:T id_slices_ContainsFunc_Row=mkE F_anyRow) (rs:List RowD) (n:Int) (hc:okRows rs) :
  wp T mf_linear_Right.body (endS mf_linear_Right.res (.same (.bool (rightS rs n)))) ⟨initTm [.dat (.sl (rs.map rowL)),.dat (.int .i64 n)],emp⟩:=by
 refine wp_start ?_
 simp only[mf_linear_Right]
 unfold rightS
 rcases h1:decide (n<0)
 ·rcases h2:decide (n>40)
  ·rcases h3:((rs.length:Int)==n)
   ·simp only[go_sem,reduceIte,yA,yB,yC,yD,yE,yH,reduceCtorEq,yF,yG,yI,h_anyRow,hc,h1,h2,h3,yJ]
    repeat' (first|refine qqA ?_ ?_|refine qqB ?_ ?_|refine qqC ?_ ?_|refine qqD ?_ ?_|refine qqE ?_ ?_|refine qqF ?_ ?_)<;>intro h<;>simp only[h,go_sem,reduceIte,yA,yB,yC,yD,yE,yH,reduceCtorEq,yF,yG,yI,h_anyRow,hc,h1,h2,h3,yJ]
   ·simp only[go_sem,reduceIte,yA,yB,yC,yD,yE,yH,reduceCtorEq,yF,yG,yI,h_anyRow,hc,h1,h2,h3,yJ,toD,evenE,Option.bind_none,scalar]
    repeat' (first|refine qqA ?_ ?_|refine qqB ?_ ?_|refine qqC ?_ ?_|refine qqD ?_ ?_|refine qqE ?_ ?_|refine qqF ?_ ?_)<;>intro h<;>simp only[h,go_sem,reduceIte,yA,yB,yC,yD,yE,yH,reduceCtorEq,yF,yG,yI,h_anyRow,hc,h1,h2,h3,yJ,toD,evenE,Option.bind_none,scalar]
  ·simp only[go_sem,reduceIte,yA,yB,yC,yD,yE,yH,reduceCtorEq,yF,yG,yI,h_anyRow,hc,h1,h2,yJ]
   repeat' (first|refine qqA ?_ ?_|refine qqB ?_ ?_|refine qqC ?_ ?_|refine qqD ?_ ?_|refine qqE ?_ ?_|refine qqF ?_ ?_)<;>intro h<;>simp only[h,go_sem,reduceIte,yA,yB,yC,yD,yE,yH,reduceCtorEq,yF,yG,yI,h_anyRow,hc,h1,h2,yJ]
 ·simp only[go_sem,reduceIte,yA,yB,yC,yD,yE,yH,reduceCtorEq,yF,yG,yI,h_anyRow,hc,h1,yJ]
  repeat' (first|refine qqA ?_ ?_|refine qqB ?_ ?_|refine qqC ?_ ?_|refine qqD ?_ ?_|refine qqE ?_ ?_|refine qqF ?_ ?_)<;>intro h<;>simp only[h,go_sem,reduceIte,yA,yB,yC,yD,yE,yH,reduceCtorEq,yF,yG,yI,h_anyRow,hc,h1,yJ]
end Go.Mini
namespace Go.Mini
open Go
theorem fit_ints {es:List (List Data)} (h:∀ x∈es,Fit (.int .i64) x):∃ l:List Int,es=l.map i64L:=by
 obtain⟨l,e,-⟩:=fit_list (e:=i64L) (good:=fun _=>True) fun x hx=>by
  have:=h x hx
  simp only[Fit] at this
  obtain⟨n,rfl,-⟩:=this
  exact⟨n,rfl,trivial⟩
 exact⟨l,e⟩
theorem fits_frac {x:List Data} (h:Fits [.st [.int .i64,.sl (.int .i64)],.st [.int .i64,.sl (.int .i64)]] x):∃ f:FRaw,x=fracL f:=by
 simp only[Fit,Fits] at h
 obtain⟨_,_,rfl,⟨_,_,rfl,⟨s,rfl,-⟩,_,_,rfl,⟨es,rfl,-,h1⟩,rfl⟩,_,_,rfl,⟨_,_,rfl,⟨s2,rfl,-⟩,_,_,rfl,⟨es2,rfl,-,h2⟩,rfl⟩,rfl⟩:=h
 obtain⟨l,rfl⟩:=fit_ints fun x hx=>by simp only[Fit];exact h1 x hx
 obtain⟨l2,rfl⟩:=fit_ints fun x hx=>by simp only[Fit];exact h2 x hx
 exact⟨((s,l),(s2,l2)),rfl⟩
theorem fit_fracs {es:List (List Data)} (h:∀ x∈es,Fit (.st [.st [.int .i64,.sl (.int .i64)],.st [.int .i64,.sl (.int .i64)]]) x):∃ l:List FRaw,es=l.map fracL:=by
 obtain⟨l,e,-⟩:=fit_list (e:=fracL) (good:=fun _=>True) fun x hx=>by
  have:=h x hx
  unfold Fit at this
  obtain⟨f,rfl⟩:=fits_frac this
  exact⟨f,rfl,trivial⟩
 exact⟨l,e⟩
theorem fits_row {x:List Data} (h:Fits [.sl (.st [.st [.int .i64,.sl (.int .i64)],.st [.int .i64,.sl (.int .i64)]]),.st [.st [.int .i64,.sl (.int .i64)],.st [.int .i64,.sl (.int .i64)]]] x):∃ r:RowD,x=rowL r:=by
 unfold Fits at h
 obtain⟨a,b,rfl,h1,h2⟩:=h
 unfold Fit at h1
 obtain⟨es,rfl,-,h1⟩:=h1
 obtain⟨l,rfl⟩:=fit_fracs h1
 unfold Fits at h2
 obtain⟨c,d,rfl,h3,h4⟩:=h2
 unfold Fit at h3
 obtain⟨f,rfl⟩:=fits_frac h3
 unfold Fits at h4
 subst h4
 exact⟨(l,f),by simp [rowL]⟩
theorem fit_rows {es:List (List Data)} (h:∀ x∈es,Fit (.st [.sl (.st [.st [.int .i64,.sl (.int .i64)],.st [.int .i64,.sl (.int .i64)]]),.st [.st [.int .i64,.sl (.int .i64)],.st [.int .i64,.sl (.int .i64)]]]) x):∃ l:List RowD,es=l.map rowL:=by
 obtain⟨l,e,-⟩:=fit_list (e:=rowL) (good:=fun _=>True) fun x hx=>by
  have:=h x hx
  unfold Fit at this
  obtain⟨r,rfl⟩:=fits_row this
  exact⟨r,rfl,trivial⟩
 exact⟨l,e⟩
theorem wf_u8' {n:Int} (h:(Lit.int .u8 n).wf=true):∃ m:Nat,n=m∧m<256:=by
 have:0≤n∧n≤255:=by simpa [Lit.wf,IntKind.min,IntKind.max,IntKind.signed,IntKind.bits] using h
 exact⟨n.toNat,by omega,by omega⟩
end Go.Mini
