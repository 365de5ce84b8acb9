/- A part of the proof: MiniRf8, MiniKRef06, MiniRf9, MiniY, MiniLin2, MiniLin3. -/
import Derived.Test.YtjcpopjafedmpaaGreatM09
import Derived.Test.YtjcpopjafedmpaaGreatM04
import Derived.Test.YtjcpopjafedmpaaGreatM07
set_option linter.unusedSimpArgs false
set_option linter.unusedVariables false
open Nat renaming reduceEqDiff → yA, reduceAdd → yB, reduceSub → yC, reduceMul → yD, reduceLeDiff → yE, reduceLT → yF, reduceBEq → yG
open Bool renaming false_eq_true → yH
open Int renaming reduceEq → yI
open List renaming length_map → yJ, getElem?_map → yK, getElem?_eq_getElem → yL
open List.cons renaming injEq → yM
namespace Go.Mini
open Go
set_option maxRecDepth 10000
set_option maxHeartbeats 4000000
def badP (b:Bool) (p q:Raw):FRaw × Int:=if b=true then (zeroF,6) else newR p q
noncomputable def F_gmade:List Data→Option PRes:=FF (α:=Int × (List Int) × Int × (List Int) × Bool) (fun (s,l,s2,l2,b)=>([.agg [.int .i64 s,.sl (l.map i64L)],.agg [.int .i64 s2,.sl (l2.map i64L)],.bool b]:List Data)) (fun (s,l,s2,l2,b)=>onlyIf (l.length≤1000000∧l2.length≤1000000) (.same (fracE (badP b (s,l) (s2,l2)))))
theorem F_gmade_inj:∀ a b:Int × (List Int) × Int × (List Int) × Bool,(fun (s,l,s2,l2,b)=>([.agg [.int .i64 s,.sl (l.map i64L)],.agg [.int .i64 s2,.sl (l2.map i64L)],.bool b]:List Data)) a=(fun (s,l,s2,l2,b)=>([.agg [.int .i64 s,.sl (l.map i64L)],.agg [.int .i64 s2,.sl (l2.map i64L)],.bool b]:List Data)) b→a=b:=by
  rintro⟨s1,l1,s21,l21,b1⟩ ⟨s2,l2,s22,l22,b2⟩ h
  simp only[yM,Data.agg.injEq,Data.int.injEq,Data.sl.injEq,Data.bool.injEq] at h;exact Prod.ext h.1.1.2 (Prod.ext (map_inj i64L_inj _ _ h.1.2.1) (Prod.ext h.2.1.1.2 (Prod.ext (map_inj i64L_inj _ _ h.2.1.2.1) h.2.2.1)))
@[go_sem] theorem F_gmade_eq (s:Int) (l:List Int) (s2:Int) (l2:List Int) (b:Bool) (hc:l.length≤1000000∧l2.length≤1000000):F_gmade [.agg [.int .i64 s,.sl (l.map i64L)],.agg [.int .i64 s2,.sl (l2.map i64L)],.bool b]=some (.same (fracE (badP b (s,l) (s2,l2)))):=(FF_eq F_gmade_inj (s,l,s2,l2,b)).trans (onlyIf_pos hc _)
theorem w_gmade (T:Tab) (h_gNew:T id_ref05_New=mkE F_gNew) (s:Int) (l:List Int) (s2:Int) (l2:List Int) (b:Bool) (hc:l.length≤1000000∧l2.length≤1000000) :
  wp T mf_ref05_made.body (endS mf_ref05_made.res (.same (fracE (badP b (s,l) (s2,l2))))) ⟨initTm [.dat (.agg [.int .i64 s,.sl (l.map i64L)]),.dat (.agg [.int .i64 s2,.sl (l2.map i64L)]),.dat (.bool b)],emp⟩:=by
 refine wp_start ?_
 simp only[mf_ref05_made]
 obtain⟨hl1,hl2⟩:=hc
 cases b
 ·simp only[go_sem,reduceIte,yA,yB,yC,yD,yE,yH,reduceCtorEq,yF,yG,yI,h_gNew,hl1,hl2,badP,fracE,fracL]
  repeat' (first|refine qqA ?_ ?_|refine qqB ?_ ?_|refine qqC ?_ ?_|refine qqD ?_ ?_|refine qqE ?_ ?_|refine qqF ?_ ?_)<;>intro h<;>simp only[h,go_sem,reduceIte,yA,yB,yC,yD,yE,yH,reduceCtorEq,yF,yG,yI,h_gNew,hl1,hl2,badP,fracE,fracL]
 ·simp only[go_sem,reduceIte,yA,yB,yC,yD,yE,yH,reduceCtorEq,yF,yG,yI,h_gNew,hl1,hl2,badP,fracE,fracL,zeroF,List.map_nil]
  repeat' (first|refine qqA ?_ ?_|refine qqB ?_ ?_|refine qqC ?_ ?_|refine qqD ?_ ?_|refine qqE ?_ ?_|refine qqF ?_ ?_)<;>intro h<;>simp only[h,go_sem,reduceIte,yA,yB,yC,yD,yE,yH,reduceCtorEq,yF,yG,yI,h_gNew,hl1,hl2,badP,fracE,fracL,zeroF,List.map_nil]
def comb4 (X Y Q H:Raw × Int):FRaw × Int:=badP (!((X.2==0)&&((Y.2==0)&&((Q.2==0)&&(H.2==0))))) H.1 Q.1
def comb2 (P Q:Raw × Int):FRaw × Int:=badP (!((P.2==0)&&(Q.2==0))) P.1 Q.1
theorem mul_ref {a b:FRaw} (ha:rightF a=true) (hb:rightF b=true):mulF a b=comb2 (mulR a.1 b.1) (mulR a.2 b.2):=by
 unfold mulF quotR comb2 badP
 rw[if_pos ha,if_pos hb]
 cases h1:((mulR a.1 b.1).2==0)<;>cases h2:((mulR a.2 b.2).2==0)<;>rfl
theorem div_ref {a b:FRaw} (ha:rightF a=true) (hb:rightF b=true):divF a b=if (b.1.1==0)=true then (zeroF,15) else comb2 (mulR a.1 b.2) (mulR a.2 b.1):=by
 unfold divF quotR comb2 badP
 rw[if_pos ha,if_pos hb]
 cases h1:((mulR a.1 b.2).2==0)<;>cases h2:((mulR a.2 b.1).2==0)<;>rfl
theorem add_ref {a b:FRaw} (ha:rightF a=true) (hb:rightF b=true):addF a b=comb4 (mulR a.1 b.2) (mulR b.1 a.2) (mulR a.2 b.2) (addR (mulR a.1 b.2).1 (mulR b.1 a.2).1):=by
 unfold addF quotR sumR comb4 badP
 rw[if_pos ha,if_pos hb]
 rcases h1:((mulR a.1 b.2).2==0)<;>rcases h2:((mulR b.1 a.2).2==0)<;>rcases h3:((mulR a.2 b.2).2==0)<;>rcases h4:((addR (mulR a.1 b.2).1 (mulR b.1 a.2).1).2==0)<;>simp_all
theorem keepB_0 {z:Int}:((keepB z).2==0)=okZ z:=by
 rcases h:okZ z
 ·rw[keepB_no h];rfl
 ·rw[keepB_yes h];rfl
theorem mulR_negl {a b:Int} (ha:a.natAbs<LIM) (hb:b.natAbs<LIM):(mulR (negR (encB a)) (encB b))=keepB (-(a*b)):=by
 rw[negR_enc ha,mulR_enc (by rw[Int.natAbs_neg];exact ha) hb,Int.neg_mul]
theorem okZ_neg (z:Int):okZ (-z)=okZ z:=by unfold okZ;rw[Int.natAbs_neg]
theorem sub_ref {a b:FRaw} (ha:rightF a=true) (hb:rightF b=true):subF a b=comb4 (mulR a.1 b.2) (mulR b.1 a.2) (mulR a.2 b.2) (subR (mulR a.1 b.2).1 (mulR b.1 a.2).1):=by
 obtain⟨x,hx,rfl⟩:=(rightF_iff _).1 ha
 obtain⟨y,hy,rfl⟩:=(rightF_iff _).1 hb
 have hnr:rightF (negR (encR y).1,(encR y).2)=true:=by
  have:(negR (encR y).1,(encR y).2)=encR (-y):=by
   unfold encR
   dsimp only
   rw[negR_enc hy.1]
   rfl
  rw[this];exact rightF_enc (limR_neg hy)
 unfold subF
 rw[if_pos ha,if_pos hb,add_ref ha hnr]
 unfold comb4 badP
 show (if (!(((mulR (encB x.num) (encB y.den)).2==0)&&(((mulR (negR (encB y.num)) (encB x.den)).2==0)&&(((mulR (encB x.den) (encB y.den)).2==0)&&((addR (mulR (encB x.num) (encB y.den)).1 (mulR (negR (encB y.num)) (encB x.den)).1).2==0)))))=true then (zeroF,6) else newR (addR (mulR (encB x.num) (encB y.den)).1 (mulR (negR (encB y.num)) (encB x.den)).1).1 (mulR (encB x.den) (encB y.den)).1)=(if (!(((mulR (encB x.num) (encB y.den)).2==0)&&(((mulR (encB y.num) (encB x.den)).2==0)&&(((mulR (encB x.den) (encB y.den)).2==0)&&((subR (mulR (encB x.num) (encB y.den)).1 (mulR (encB y.num) (encB x.den)).1).2==0)))))=true then (zeroF,6) else newR (subR (mulR (encB x.num) (encB y.den)).1 (mulR (encB y.num) (encB x.den)).1).1 (mulR (encB x.den) (encB y.den)).1)
 rw[mulR_enc hx.1 (limD hy),mulR_negl hy.1 (limD hx),mulR_enc hy.1 (limD hx),mulR_enc (limD hx) (limD hy),keepB_0,keepB_0,keepB_0,keepB_0,okZ_neg]
 rcases h1:okZ (x.num*y.den)
 ·rfl
 ·rcases h2:okZ (y.num*x.den)
  ·rfl
  ·rw[keepB_yes h1,keepB_yes h2,keepB_yes (by rw[okZ_neg];exact h2)]
   dsimp only
   rw[addR_enc (okZ_lt h1) (by rw[Int.natAbs_neg];exact okZ_lt h2),subR_enc (okZ_lt h1) (okZ_lt h2)]
   rfl
theorem subR_len (a b:Raw):(subR a b).1.2.length≤1000000:=by
 unfold subR
 split
 ·exact addR_len _ _
 ·simp
noncomputable def F_gAdd:List Data→Option PRes:=FF (α:=Int × (List Int) × Int × (List Int) × Int × (List Int) × Int × (List Int)) (fun (s,l,s2,l2,s3,l3,s4,l4)=>([.agg [.int .i64 s,.sl (l.map i64L),.int .i64 s2,.sl (l2.map i64L)],.agg [.int .i64 s3,.sl (l3.map i64L),.int .i64 s4,.sl (l4.map i64L)]]:List Data)) (fun (s,l,s2,l2,s3,l3,s4,l4)=>onlyIf (l.length≤1000000∧l2.length≤1000000∧l3.length≤1000000∧l4.length≤1000000) (.same (fracE (addF ((s,l),(s2,l2)) ((s3,l3),(s4,l4))))))
theorem F_gAdd_inj:∀ a b:Int × (List Int) × Int × (List Int) × Int × (List Int) × Int × (List Int),(fun (s,l,s2,l2,s3,l3,s4,l4)=>([.agg [.int .i64 s,.sl (l.map i64L),.int .i64 s2,.sl (l2.map i64L)],.agg [.int .i64 s3,.sl (l3.map i64L),.int .i64 s4,.sl (l4.map i64L)]]:List Data)) a=(fun (s,l,s2,l2,s3,l3,s4,l4)=>([.agg [.int .i64 s,.sl (l.map i64L),.int .i64 s2,.sl (l2.map i64L)],.agg [.int .i64 s3,.sl (l3.map i64L),.int .i64 s4,.sl (l4.map i64L)]]:List Data)) b→a=b:=by
  rintro⟨s1,l1,s21,l21,s31,l31,s41,l41⟩ ⟨s2,l2,s22,l22,s32,l32,s42,l42⟩ h
  simp only[yM,Data.agg.injEq,Data.int.injEq,Data.sl.injEq] at h;exact Prod.ext h.1.1.2 (Prod.ext (map_inj i64L_inj _ _ h.1.2.1) (Prod.ext h.1.2.2.1.2 (Prod.ext (map_inj i64L_inj _ _ h.1.2.2.2.1) (Prod.ext h.2.1.1.2 (Prod.ext (map_inj i64L_inj _ _ h.2.1.2.1) (Prod.ext h.2.1.2.2.1.2 (map_inj i64L_inj _ _ h.2.1.2.2.2.1)))))))
@[go_sem] theorem F_gAdd_eq (s:Int) (l:List Int) (s2:Int) (l2:List Int) (s3:Int) (l3:List Int) (s4:Int) (l4:List Int) (hc:l.length≤1000000∧l2.length≤1000000∧l3.length≤1000000∧l4.length≤1000000):F_gAdd [.agg [.int .i64 s,.sl (l.map i64L),.int .i64 s2,.sl (l2.map i64L)],.agg [.int .i64 s3,.sl (l3.map i64L),.int .i64 s4,.sl (l4.map i64L)]]=some (.same (fracE (addF ((s,l),(s2,l2)) ((s3,l3),(s4,l4))))):=(FF_eq F_gAdd_inj (s,l,s2,l2,s3,l3,s4,l4)).trans (onlyIf_pos hc _)
theorem w_gAdd (T:Tab) (h_gRight:T id_ref05_Right=mkE F_gRight) (h_rMul:T id_ref04_Mul=mkE F_rMul) (h_rAdd:T id_ref04_Add=mkE F_rAdd) (h_gmade:T id_ref05_made=mkE F_gmade) (s:Int) (l:List Int) (s2:Int) (l2:List Int) (s3:Int) (l3:List Int) (s4:Int) (l4:List Int) (hc:l.length≤1000000∧l2.length≤1000000∧l3.length≤1000000∧l4.length≤1000000) :
  wp T mf_ref05_Add.body (endS mf_ref05_Add.res (.same (fracE (addF ((s,l),(s2,l2)) ((s3,l3),(s4,l4)))))) ⟨initTm [.dat (.agg [.int .i64 s,.sl (l.map i64L),.int .i64 s2,.sl (l2.map i64L)]),.dat (.agg [.int .i64 s3,.sl (l3.map i64L),.int .i64 s4,.sl (l4.map i64L)])],emp⟩:=by
 refine wp_start ?_
 simp only[mf_ref05_Add]
 obtain⟨hl1,hl2,hl3,hl4⟩:=hc
 by_cases hr:rightF ((s,l),(s2,l2))=true
 ·by_cases hr2:rightF ((s3,l3),(s4,l4))=true
  ·rw[add_ref hr hr2]
   dsimp only
   have m1:=mulR_len (s,l) (s4,l4)
   have m2:=mulR_len (s3,l3) (s2,l2)
   have m3:=mulR_len (s2,l2) (s4,l4)
   generalize hM1:mulR (s,l) (s4,l4)=M1 at *
   generalize hM2:mulR (s3,l3) (s2,l2)=M2 at *
   generalize hM3:mulR (s2,l2) (s4,l4)=M3 at *
   obtain⟨⟨a1,a2⟩,e1⟩:=M1
   obtain⟨⟨b1,b2⟩,e2⟩:=M2
   obtain⟨⟨c1,c2⟩,e3⟩:=M3
   dsimp only at *
   have m4:=addR_len (a1,a2) (b1,b2)
   generalize hM4:addR (a1,a2) (b1,b2)=M4 at *
   obtain⟨⟨d1,d2⟩,e4⟩:=M4
   unfold comb4
   dsimp only at *
   rcases h1:(e1==0)
   ·simp only[go_sem,reduceIte,yA,yB,yC,yD,yE,yH,reduceCtorEq,yF,yG,yI,h_gRight,h_rMul,h_rAdd,h_gmade,hl1,hl2,hl3,hl4,hr,hr2,hM1,hM2,hM3,hM4,m1,m2,m3,m4,h1,bigE,bigL,fracE,fracL,Bool.not_false,Bool.not_true,bne,Bool.false_and]
    repeat' (first|refine qqA ?_ ?_|refine qqB ?_ ?_|refine qqC ?_ ?_|refine qqD ?_ ?_|refine qqE ?_ ?_|refine qqF ?_ ?_)<;>intro h<;>simp only[h,go_sem,reduceIte,yA,yB,yC,yD,yE,yH,reduceCtorEq,yF,yG,yI,h_gRight,h_rMul,h_rAdd,h_gmade,hl1,hl2,hl3,hl4,hr,hr2,hM1,hM2,hM3,hM4,m1,m2,m3,m4,h1,bigE,bigL,fracE,fracL,Bool.not_false,Bool.not_true,bne,Bool.false_and]
   ·rcases h2:(e2==0)
    ·simp only[go_sem,reduceIte,yA,yB,yC,yD,yE,yH,reduceCtorEq,yF,yG,yI,h_gRight,h_rMul,h_rAdd,h_gmade,hl1,hl2,hl3,hl4,hr,hr2,hM1,hM2,hM3,hM4,m1,m2,m3,m4,h1,h2,bigE,bigL,fracE,fracL,Bool.not_false,Bool.not_true,bne,Bool.false_and,Bool.true_and]
     repeat' (first|refine qqA ?_ ?_|refine qqB ?_ ?_|refine qqC ?_ ?_|refine qqD ?_ ?_|refine qqE ?_ ?_|refine qqF ?_ ?_)<;>intro h<;>simp only[h,go_sem,reduceIte,yA,yB,yC,yD,yE,yH,reduceCtorEq,yF,yG,yI,h_gRight,h_rMul,h_rAdd,h_gmade,hl1,hl2,hl3,hl4,hr,hr2,hM1,hM2,hM3,hM4,m1,m2,m3,m4,h1,h2,bigE,bigL,fracE,fracL,Bool.not_false,Bool.not_true,bne,Bool.false_and,Bool.true_and]
    ·rcases h3:(e3==0)
     ·simp only[go_sem,reduceIte,yA,yB,yC,yD,yE,yH,reduceCtorEq,yF,yG,yI,h_gRight,h_rMul,h_rAdd,h_gmade,hl1,hl2,hl3,hl4,hr,hr2,hM1,hM2,hM3,hM4,m1,m2,m3,m4,h1,h2,h3,bigE,bigL,fracE,fracL,Bool.not_false,Bool.not_true,bne,Bool.false_and,Bool.true_and]
      repeat' (first|refine qqA ?_ ?_|refine qqB ?_ ?_|refine qqC ?_ ?_|refine qqD ?_ ?_|refine qqE ?_ ?_|refine qqF ?_ ?_)<;>intro h<;>simp only[h,go_sem,reduceIte,yA,yB,yC,yD,yE,yH,reduceCtorEq,yF,yG,yI,h_gRight,h_rMul,h_rAdd,h_gmade,hl1,hl2,hl3,hl4,hr,hr2,hM1,hM2,hM3,hM4,m1,m2,m3,m4,h1,h2,h3,bigE,bigL,fracE,fracL,Bool.not_false,Bool.not_true,bne,Bool.false_and,Bool.true_and]
     ·rcases h4:(e4==0)
      ·simp only[go_sem,reduceIte,yA,yB,yC,yD,yE,yH,reduceCtorEq,yF,yG,yI,h_gRight,h_rMul,h_rAdd,h_gmade,hl1,hl2,hl3,hl4,hr,hr2,hM1,hM2,hM3,hM4,m1,m2,m3,m4,h1,h2,h3,h4,bigE,bigL,fracE,fracL,Bool.not_false,Bool.not_true,bne,Bool.false_and,Bool.true_and]
       repeat' (first|refine qqA ?_ ?_|refine qqB ?_ ?_|refine qqC ?_ ?_|refine qqD ?_ ?_|refine qqE ?_ ?_|refine qqF ?_ ?_)<;>intro h<;>simp only[h,go_sem,reduceIte,yA,yB,yC,yD,yE,yH,reduceCtorEq,yF,yG,yI,h_gRight,h_rMul,h_rAdd,h_gmade,hl1,hl2,hl3,hl4,hr,hr2,hM1,hM2,hM3,hM4,m1,m2,m3,m4,h1,h2,h3,h4,bigE,bigL,fracE,fracL,Bool.not_false,Bool.not_true,bne,Bool.false_and,Bool.true_and]
      ·simp only[go_sem,reduceIte,yA,yB,yC,yD,yE,yH,reduceCtorEq,yF,yG,yI,h_gRight,h_rMul,h_rAdd,h_gmade,hl1,hl2,hl3,hl4,hr,hr2,hM1,hM2,hM3,hM4,m1,m2,m3,m4,h1,h2,h3,h4,bigE,bigL,fracE,fracL,Bool.not_false,Bool.not_true,bne,Bool.false_and,Bool.true_and]
       repeat' (first|refine qqA ?_ ?_|refine qqB ?_ ?_|refine qqC ?_ ?_|refine qqD ?_ ?_|refine qqE ?_ ?_|refine qqF ?_ ?_)<;>intro h<;>simp only[h,go_sem,reduceIte,yA,yB,yC,yD,yE,yH,reduceCtorEq,yF,yG,yI,h_gRight,h_rMul,h_rAdd,h_gmade,hl1,hl2,hl3,hl4,hr,hr2,hM1,hM2,hM3,hM4,m1,m2,m3,m4,h1,h2,h3,h4,bigE,bigL,fracE,fracL,Bool.not_false,Bool.not_true,bne,Bool.false_and,Bool.true_and]
  ·have hr2:rightF ((s3,l3),(s4,l4))=false:=by simpa using hr2
   unfold addF
   rw[if_pos hr,if_neg (by simp [hr2])]
   simp only[go_sem,reduceIte,yA,yB,yC,yD,yE,yH,reduceCtorEq,yF,yG,yI,h_gRight,h_rMul,h_rAdd,h_gmade,hl1,hl2,hl3,hl4,hr,hr2,fracE,fracL,zeroF,List.map_nil]
   repeat' (first|refine qqA ?_ ?_|refine qqB ?_ ?_|refine qqC ?_ ?_|refine qqD ?_ ?_|refine qqE ?_ ?_|refine qqF ?_ ?_)<;>intro h<;>simp only[h,go_sem,reduceIte,yA,yB,yC,yD,yE,yH,reduceCtorEq,yF,yG,yI,h_gRight,h_rMul,h_rAdd,h_gmade,hl1,hl2,hl3,hl4,hr,hr2,fracE,fracL,zeroF,List.map_nil]
 ·have hr:rightF ((s,l),(s2,l2))=false:=by simpa using hr
  unfold addF
  rw[if_neg (by simp [hr])]
  simp only[go_sem,reduceIte,yA,yB,yC,yD,yE,yH,reduceCtorEq,yF,yG,yI,h_gRight,h_rMul,h_rAdd,h_gmade,hl1,hl2,hl3,hl4,hr,fracE,fracL,zeroF,List.map_nil]
  repeat' (first|refine qqA ?_ ?_|refine qqB ?_ ?_|refine qqC ?_ ?_|refine qqD ?_ ?_|refine qqE ?_ ?_|refine qqF ?_ ?_)<;>intro h<;>simp only[h,go_sem,reduceIte,yA,yB,yC,yD,yE,yH,reduceCtorEq,yF,yG,yI,h_gRight,h_rMul,h_rAdd,h_gmade,hl1,hl2,hl3,hl4,hr,fracE,fracL,zeroF,List.map_nil]
noncomputable def F_gSub:List Data→Option PRes:=FF (α:=Int × (List Int) × Int × (List Int) × Int × (List Int) × Int × (List Int)) (fun (s,l,s2,l2,s3,l3,s4,l4)=>([.agg [.int .i64 s,.sl (l.map i64L),.int .i64 s2,.sl (l2.map i64L)],.agg [.int .i64 s3,.sl (l3.map i64L),.int .i64 s4,.sl (l4.map i64L)]]:List Data)) (fun (s,l,s2,l2,s3,l3,s4,l4)=>onlyIf (l.length≤1000000∧l2.length≤1000000∧l3.length≤1000000∧l4.length≤1000000) (.same (fracE (subF ((s,l),(s2,l2)) ((s3,l3),(s4,l4))))))
theorem F_gSub_inj:∀ a b:Int × (List Int) × Int × (List Int) × Int × (List Int) × Int × (List Int),(fun (s,l,s2,l2,s3,l3,s4,l4)=>([.agg [.int .i64 s,.sl (l.map i64L),.int .i64 s2,.sl (l2.map i64L)],.agg [.int .i64 s3,.sl (l3.map i64L),.int .i64 s4,.sl (l4.map i64L)]]:List Data)) a=(fun (s,l,s2,l2,s3,l3,s4,l4)=>([.agg [.int .i64 s,.sl (l.map i64L),.int .i64 s2,.sl (l2.map i64L)],.agg [.int .i64 s3,.sl (l3.map i64L),.int .i64 s4,.sl (l4.map i64L)]]:List Data)) b→a=b:=by
  rintro⟨s1,l1,s21,l21,s31,l31,s41,l41⟩ ⟨s2,l2,s22,l22,s32,l32,s42,l42⟩ h
  simp only[yM,Data.agg.injEq,Data.int.injEq,Data.sl.injEq] at h;exact Prod.ext h.1.1.2 (Prod.ext (map_inj i64L_inj _ _ h.1.2.1) (Prod.ext h.1.2.2.1.2 (Prod.ext (map_inj i64L_inj _ _ h.1.2.2.2.1) (Prod.ext h.2.1.1.2 (Prod.ext (map_inj i64L_inj _ _ h.2.1.2.1) (Prod.ext h.2.1.2.2.1.2 (map_inj i64L_inj _ _ h.2.1.2.2.2.1)))))))
@[go_sem] theorem F_gSub_eq (s:Int) (l:List Int) (s2:Int) (l2:List Int) (s3:Int) (l3:List Int) (s4:Int) (l4:List Int) (hc:l.length≤1000000∧l2.length≤1000000∧l3.length≤1000000∧l4.length≤1000000):F_gSub [.agg [.int .i64 s,.sl (l.map i64L),.int .i64 s2,.sl (l2.map i64L)],.agg [.int .i64 s3,.sl (l3.map i64L),.int .i64 s4,.sl (l4.map i64L)]]=some (.same (fracE (subF ((s,l),(s2,l2)) ((s3,l3),(s4,l4))))):=(FF_eq F_gSub_inj (s,l,s2,l2,s3,l3,s4,l4)).trans (onlyIf_pos hc _)
theorem w_gSub (T:Tab) (h_gRight:T id_ref05_Right=mkE F_gRight) (h_rMul:T id_ref04_Mul=mkE F_rMul) (h_rSub:T id_ref04_Sub=mkE F_rSub) (h_gmade:T id_ref05_made=mkE F_gmade) (s:Int) (l:List Int) (s2:Int) (l2:List Int) (s3:Int) (l3:List Int) (s4:Int) (l4:List Int) (hc:l.length≤1000000∧l2.length≤1000000∧l3.length≤1000000∧l4.length≤1000000) :
  wp T mf_ref05_Sub.body (endS mf_ref05_Sub.res (.same (fracE (subF ((s,l),(s2,l2)) ((s3,l3),(s4,l4)))))) ⟨initTm [.dat (.agg [.int .i64 s,.sl (l.map i64L),.int .i64 s2,.sl (l2.map i64L)]),.dat (.agg [.int .i64 s3,.sl (l3.map i64L),.int .i64 s4,.sl (l4.map i64L)])],emp⟩:=by
 refine wp_start ?_
 simp only[mf_ref05_Sub]
 obtain⟨hl1,hl2,hl3,hl4⟩:=hc
 by_cases hr:rightF ((s,l),(s2,l2))=true
 ·by_cases hr2:rightF ((s3,l3),(s4,l4))=true
  ·rw[sub_ref hr hr2]
   dsimp only
   have m1:=mulR_len (s,l) (s4,l4)
   have m2:=mulR_len (s3,l3) (s2,l2)
   have m3:=mulR_len (s2,l2) (s4,l4)
   generalize hM1:mulR (s,l) (s4,l4)=M1 at *
   generalize hM2:mulR (s3,l3) (s2,l2)=M2 at *
   generalize hM3:mulR (s2,l2) (s4,l4)=M3 at *
   obtain⟨⟨a1,a2⟩,e1⟩:=M1
   obtain⟨⟨b1,b2⟩,e2⟩:=M2
   obtain⟨⟨c1,c2⟩,e3⟩:=M3
   dsimp only at *
   have m4:=subR_len (a1,a2) (b1,b2)
   generalize hM4:subR (a1,a2) (b1,b2)=M4 at *
   obtain⟨⟨d1,d2⟩,e4⟩:=M4
   unfold comb4
   dsimp only at *
   rcases h1:(e1==0)
   ·simp only[go_sem,reduceIte,yA,yB,yC,yD,yE,yH,reduceCtorEq,yF,yG,yI,h_gRight,h_rMul,h_rSub,h_gmade,hl1,hl2,hl3,hl4,hr,hr2,hM1,hM2,hM3,hM4,m1,m2,m3,m4,h1,bigE,bigL,fracE,fracL,Bool.not_false,Bool.not_true,bne,Bool.false_and]
    repeat' (first|refine qqA ?_ ?_|refine qqB ?_ ?_|refine qqC ?_ ?_|refine qqD ?_ ?_|refine qqE ?_ ?_|refine qqF ?_ ?_)<;>intro h<;>simp only[h,go_sem,reduceIte,yA,yB,yC,yD,yE,yH,reduceCtorEq,yF,yG,yI,h_gRight,h_rMul,h_rSub,h_gmade,hl1,hl2,hl3,hl4,hr,hr2,hM1,hM2,hM3,hM4,m1,m2,m3,m4,h1,bigE,bigL,fracE,fracL,Bool.not_false,Bool.not_true,bne,Bool.false_and]
   ·rcases h2:(e2==0)
    ·simp only[go_sem,reduceIte,yA,yB,yC,yD,yE,yH,reduceCtorEq,yF,yG,yI,h_gRight,h_rMul,h_rSub,h_gmade,hl1,hl2,hl3,hl4,hr,hr2,hM1,hM2,hM3,hM4,m1,m2,m3,m4,h1,h2,bigE,bigL,fracE,fracL,Bool.not_false,Bool.not_true,bne,Bool.false_and,Bool.true_and]
     repeat' (first|refine qqA ?_ ?_|refine qqB ?_ ?_|refine qqC ?_ ?_|refine qqD ?_ ?_|refine qqE ?_ ?_|refine qqF ?_ ?_)<;>intro h<;>simp only[h,go_sem,reduceIte,yA,yB,yC,yD,yE,yH,reduceCtorEq,yF,yG,yI,h_gRight,h_rMul,h_rSub,h_gmade,hl1,hl2,hl3,hl4,hr,hr2,hM1,hM2,hM3,hM4,m1,m2,m3,m4,h1,h2,bigE,bigL,fracE,fracL,Bool.not_false,Bool.not_true,bne,Bool.false_and,Bool.true_and]
    ·rcases h3:(e3==0)
     ·simp only[go_sem,reduceIte,yA,yB,yC,yD,yE,yH,reduceCtorEq,yF,yG,yI,h_gRight,h_rMul,h_rSub,h_gmade,hl1,hl2,hl3,hl4,hr,hr2,hM1,hM2,hM3,hM4,m1,m2,m3,m4,h1,h2,h3,bigE,bigL,fracE,fracL,Bool.not_false,Bool.not_true,bne,Bool.false_and,Bool.true_and]
      repeat' (first|refine qqA ?_ ?_|refine qqB ?_ ?_|refine qqC ?_ ?_|refine qqD ?_ ?_|refine qqE ?_ ?_|refine qqF ?_ ?_)<;>intro h<;>simp only[h,go_sem,reduceIte,yA,yB,yC,yD,yE,yH,reduceCtorEq,yF,yG,yI,h_gRight,h_rMul,h_rSub,h_gmade,hl1,hl2,hl3,hl4,hr,hr2,hM1,hM2,hM3,hM4,m1,m2,m3,m4,h1,h2,h3,bigE,bigL,fracE,fracL,Bool.not_false,Bool.not_true,bne,Bool.false_and,Bool.true_and]
     ·rcases h4:(e4==0)
      ·simp only[go_sem,reduceIte,yA,yB,yC,yD,yE,yH,reduceCtorEq,yF,yG,yI,h_gRight,h_rMul,h_rSub,h_gmade,hl1,hl2,hl3,hl4,hr,hr2,hM1,hM2,hM3,hM4,m1,m2,m3,m4,h1,h2,h3,h4,bigE,bigL,fracE,fracL,Bool.not_false,Bool.not_true,bne,Bool.false_and,Bool.true_and]
       repeat' (first|refine qqA ?_ ?_|refine qqB ?_ ?_|refine qqC ?_ ?_|refine qqD ?_ ?_|refine qqE ?_ ?_|refine qqF ?_ ?_)<;>intro h<;>simp only[h,go_sem,reduceIte,yA,yB,yC,yD,yE,yH,reduceCtorEq,yF,yG,yI,h_gRight,h_rMul,h_rSub,h_gmade,hl1,hl2,hl3,hl4,hr,hr2,hM1,hM2,hM3,hM4,m1,m2,m3,m4,h1,h2,h3,h4,bigE,bigL,fracE,fracL,Bool.not_false,Bool.not_true,bne,Bool.false_and,Bool.true_and]
      ·simp only[go_sem,reduceIte,yA,yB,yC,yD,yE,yH,reduceCtorEq,yF,yG,yI,h_gRight,h_rMul,h_rSub,h_gmade,hl1,hl2,hl3,hl4,hr,hr2,hM1,hM2,hM3,hM4,m1,m2,m3,m4,h1,h2,h3,h4,bigE,bigL,fracE,fracL,Bool.not_false,Bool.not_true,bne,Bool.false_and,Bool.true_and]
       repeat' (first|refine qqA ?_ ?_|refine qqB ?_ ?_|refine qqC ?_ ?_|refine qqD ?_ ?_|refine qqE ?_ ?_|refine qqF ?_ ?_)<;>intro h<;>simp only[h,go_sem,reduceIte,yA,yB,yC,yD,yE,yH,reduceCtorEq,yF,yG,yI,h_gRight,h_rMul,h_rSub,h_gmade,hl1,hl2,hl3,hl4,hr,hr2,hM1,hM2,hM3,hM4,m1,m2,m3,m4,h1,h2,h3,h4,bigE,bigL,fracE,fracL,Bool.not_false,Bool.not_true,bne,Bool.false_and,Bool.true_and]
  ·have hr2:rightF ((s3,l3),(s4,l4))=false:=by simpa using hr2
   unfold subF
   rw[if_pos hr,if_neg (by simp [hr2])]
   simp only[go_sem,reduceIte,yA,yB,yC,yD,yE,yH,reduceCtorEq,yF,yG,yI,h_gRight,h_rMul,h_rSub,h_gmade,hl1,hl2,hl3,hl4,hr,hr2,fracE,fracL,zeroF,List.map_nil]
   repeat' (first|refine qqA ?_ ?_|refine qqB ?_ ?_|refine qqC ?_ ?_|refine qqD ?_ ?_|refine qqE ?_ ?_|refine qqF ?_ ?_)<;>intro h<;>simp only[h,go_sem,reduceIte,yA,yB,yC,yD,yE,yH,reduceCtorEq,yF,yG,yI,h_gRight,h_rMul,h_rSub,h_gmade,hl1,hl2,hl3,hl4,hr,hr2,fracE,fracL,zeroF,List.map_nil]
 ·have hr:rightF ((s,l),(s2,l2))=false:=by simpa using hr
  unfold subF
  rw[if_neg (by simp [hr])]
  simp only[go_sem,reduceIte,yA,yB,yC,yD,yE,yH,reduceCtorEq,yF,yG,yI,h_gRight,h_rMul,h_rSub,h_gmade,hl1,hl2,hl3,hl4,hr,fracE,fracL,zeroF,List.map_nil]
  repeat' (first|refine qqA ?_ ?_|refine qqB ?_ ?_|refine qqC ?_ ?_|refine qqD ?_ ?_|refine qqE ?_ ?_|refine qqF ?_ ?_)<;>intro h<;>simp only[h,go_sem,reduceIte,yA,yB,yC,yD,yE,yH,reduceCtorEq,yF,yG,yI,h_gRight,h_rMul,h_rSub,h_gmade,hl1,hl2,hl3,hl4,hr,fracE,fracL,zeroF,List.map_nil]
noncomputable def F_gMul:List Data→Option PRes:=FF (α:=Int × (List Int) × Int × (List Int) × Int × (List Int) × Int × (List Int)) (fun (s,l,s2,l2,s3,l3,s4,l4)=>([.agg [.int .i64 s,.sl (l.map i64L),.int .i64 s2,.sl (l2.map i64L)],.agg [.int .i64 s3,.sl (l3.map i64L),.int .i64 s4,.sl (l4.map i64L)]]:List Data)) (fun (s,l,s2,l2,s3,l3,s4,l4)=>onlyIf (l.length≤1000000∧l2.length≤1000000∧l3.length≤1000000∧l4.length≤1000000) (.same (fracE (mulF ((s,l),(s2,l2)) ((s3,l3),(s4,l4))))))
theorem F_gMul_inj:∀ a b:Int × (List Int) × Int × (List Int) × Int × (List Int) × Int × (List Int),(fun (s,l,s2,l2,s3,l3,s4,l4)=>([.agg [.int .i64 s,.sl (l.map i64L),.int .i64 s2,.sl (l2.map i64L)],.agg [.int .i64 s3,.sl (l3.map i64L),.int .i64 s4,.sl (l4.map i64L)]]:List Data)) a=(fun (s,l,s2,l2,s3,l3,s4,l4)=>([.agg [.int .i64 s,.sl (l.map i64L),.int .i64 s2,.sl (l2.map i64L)],.agg [.int .i64 s3,.sl (l3.map i64L),.int .i64 s4,.sl (l4.map i64L)]]:List Data)) b→a=b:=by
  rintro⟨s1,l1,s21,l21,s31,l31,s41,l41⟩ ⟨s2,l2,s22,l22,s32,l32,s42,l42⟩ h
  simp only[yM,Data.agg.injEq,Data.int.injEq,Data.sl.injEq] at h;exact Prod.ext h.1.1.2 (Prod.ext (map_inj i64L_inj _ _ h.1.2.1) (Prod.ext h.1.2.2.1.2 (Prod.ext (map_inj i64L_inj _ _ h.1.2.2.2.1) (Prod.ext h.2.1.1.2 (Prod.ext (map_inj i64L_inj _ _ h.2.1.2.1) (Prod.ext h.2.1.2.2.1.2 (map_inj i64L_inj _ _ h.2.1.2.2.2.1)))))))
@[go_sem] theorem F_gMul_eq (s:Int) (l:List Int) (s2:Int) (l2:List Int) (s3:Int) (l3:List Int) (s4:Int) (l4:List Int) (hc:l.length≤1000000∧l2.length≤1000000∧l3.length≤1000000∧l4.length≤1000000):F_gMul [.agg [.int .i64 s,.sl (l.map i64L),.int .i64 s2,.sl (l2.map i64L)],.agg [.int .i64 s3,.sl (l3.map i64L),.int .i64 s4,.sl (l4.map i64L)]]=some (.same (fracE (mulF ((s,l),(s2,l2)) ((s3,l3),(s4,l4))))):=(FF_eq F_gMul_inj (s,l,s2,l2,s3,l3,s4,l4)).trans (onlyIf_pos hc _)
theorem w_gMul (T:Tab) (h_gRight:T id_ref05_Right=mkE F_gRight) (h_rMul:T id_ref04_Mul=mkE F_rMul) (h_gmade:T id_ref05_made=mkE F_gmade) (s:Int) (l:List Int) (s2:Int) (l2:List Int) (s3:Int) (l3:List Int) (s4:Int) (l4:List Int) (hc:l.length≤1000000∧l2.length≤1000000∧l3.length≤1000000∧l4.length≤1000000) :
  wp T mf_ref05_Mul.body (endS mf_ref05_Mul.res (.same (fracE (mulF ((s,l),(s2,l2)) ((s3,l3),(s4,l4)))))) ⟨initTm [.dat (.agg [.int .i64 s,.sl (l.map i64L),.int .i64 s2,.sl (l2.map i64L)]),.dat (.agg [.int .i64 s3,.sl (l3.map i64L),.int .i64 s4,.sl (l4.map i64L)])],emp⟩:=by
 refine wp_start ?_
 simp only[mf_ref05_Mul]
 obtain⟨hl1,hl2,hl3,hl4⟩:=hc
 by_cases hr:rightF ((s,l),(s2,l2))=true
 ·by_cases hr2:rightF ((s3,l3),(s4,l4))=true
  ·rw[mul_ref hr hr2]
   dsimp only
   have m1:=mulR_len (s,l) (s3,l3)
   have m2:=mulR_len (s2,l2) (s4,l4)
   generalize hM1:mulR (s,l) (s3,l3)=M1 at *
   generalize hM2:mulR (s2,l2) (s4,l4)=M2 at *
   obtain⟨⟨a1,a2⟩,e1⟩:=M1
   obtain⟨⟨b1,b2⟩,e2⟩:=M2
   unfold comb2
   dsimp only at *
   rcases h1:(e1==0)
   ·simp only[go_sem,reduceIte,yA,yB,yC,yD,yE,yH,reduceCtorEq,yF,yG,yI,h_gRight,h_rMul,h_gmade,hl1,hl2,hl3,hl4,hr,hr2,hM1,hM2,m1,m2,h1,bigE,bigL,fracE,fracL,Bool.not_false,Bool.not_true,bne,Bool.false_and]
    repeat' (first|refine qqA ?_ ?_|refine qqB ?_ ?_|refine qqC ?_ ?_|refine qqD ?_ ?_|refine qqE ?_ ?_|refine qqF ?_ ?_)<;>intro h<;>simp only[h,go_sem,reduceIte,yA,yB,yC,yD,yE,yH,reduceCtorEq,yF,yG,yI,h_gRight,h_rMul,h_gmade,hl1,hl2,hl3,hl4,hr,hr2,hM1,hM2,m1,m2,h1,bigE,bigL,fracE,fracL,Bool.not_false,Bool.not_true,bne,Bool.false_and]
   ·rcases h2:(e2==0)
    ·simp only[go_sem,reduceIte,yA,yB,yC,yD,yE,yH,reduceCtorEq,yF,yG,yI,h_gRight,h_rMul,h_gmade,hl1,hl2,hl3,hl4,hr,hr2,hM1,hM2,m1,m2,h1,h2,bigE,bigL,fracE,fracL,Bool.not_false,Bool.not_true,bne,Bool.false_and,Bool.true_and]
     repeat' (first|refine qqA ?_ ?_|refine qqB ?_ ?_|refine qqC ?_ ?_|refine qqD ?_ ?_|refine qqE ?_ ?_|refine qqF ?_ ?_)<;>intro h<;>simp only[h,go_sem,reduceIte,yA,yB,yC,yD,yE,yH,reduceCtorEq,yF,yG,yI,h_gRight,h_rMul,h_gmade,hl1,hl2,hl3,hl4,hr,hr2,hM1,hM2,m1,m2,h1,h2,bigE,bigL,fracE,fracL,Bool.not_false,Bool.not_true,bne,Bool.false_and,Bool.true_and]
    ·simp only[go_sem,reduceIte,yA,yB,yC,yD,yE,yH,reduceCtorEq,yF,yG,yI,h_gRight,h_rMul,h_gmade,hl1,hl2,hl3,hl4,hr,hr2,hM1,hM2,m1,m2,h1,h2,bigE,bigL,fracE,fracL,Bool.not_false,Bool.not_true,bne,Bool.false_and,Bool.true_and]
     repeat' (first|refine qqA ?_ ?_|refine qqB ?_ ?_|refine qqC ?_ ?_|refine qqD ?_ ?_|refine qqE ?_ ?_|refine qqF ?_ ?_)<;>intro h<;>simp only[h,go_sem,reduceIte,yA,yB,yC,yD,yE,yH,reduceCtorEq,yF,yG,yI,h_gRight,h_rMul,h_gmade,hl1,hl2,hl3,hl4,hr,hr2,hM1,hM2,m1,m2,h1,h2,bigE,bigL,fracE,fracL,Bool.not_false,Bool.not_true,bne,Bool.false_and,Bool.true_and]
  ·have hr2:rightF ((s3,l3),(s4,l4))=false:=by simpa using hr2
   unfold mulF
   rw[if_pos hr,if_neg (by simp [hr2])]
   simp only[go_sem,reduceIte,yA,yB,yC,yD,yE,yH,reduceCtorEq,yF,yG,yI,h_gRight,h_rMul,h_gmade,hl1,hl2,hl3,hl4,hr,hr2,fracE,fracL,zeroF,List.map_nil]
   repeat' (first|refine qqA ?_ ?_|refine qqB ?_ ?_|refine qqC ?_ ?_|refine qqD ?_ ?_|refine qqE ?_ ?_|refine qqF ?_ ?_)<;>intro h<;>simp only[h,go_sem,reduceIte,yA,yB,yC,yD,yE,yH,reduceCtorEq,yF,yG,yI,h_gRight,h_rMul,h_gmade,hl1,hl2,hl3,hl4,hr,hr2,fracE,fracL,zeroF,List.map_nil]
 ·have hr:rightF ((s,l),(s2,l2))=false:=by simpa using hr
  unfold mulF
  rw[if_neg (by simp [hr])]
  simp only[go_sem,reduceIte,yA,yB,yC,yD,yE,yH,reduceCtorEq,yF,yG,yI,h_gRight,h_rMul,h_gmade,hl1,hl2,hl3,hl4,hr,fracE,fracL,zeroF,List.map_nil]
  repeat' (first|refine qqA ?_ ?_|refine qqB ?_ ?_|refine qqC ?_ ?_|refine qqD ?_ ?_|refine qqE ?_ ?_|refine qqF ?_ ?_)<;>intro h<;>simp only[h,go_sem,reduceIte,yA,yB,yC,yD,yE,yH,reduceCtorEq,yF,yG,yI,h_gRight,h_rMul,h_gmade,hl1,hl2,hl3,hl4,hr,fracE,fracL,zeroF,List.map_nil]
noncomputable def F_gDiv:List Data→Option PRes:=FF (α:=Int × (List Int) × Int × (List Int) × Int × (List Int) × Int × (List Int)) (fun (s,l,s2,l2,s3,l3,s4,l4)=>([.agg [.int .i64 s,.sl (l.map i64L),.int .i64 s2,.sl (l2.map i64L)],.agg [.int .i64 s3,.sl (l3.map i64L),.int .i64 s4,.sl (l4.map i64L)]]:List Data)) (fun (s,l,s2,l2,s3,l3,s4,l4)=>onlyIf (l.length≤1000000∧l2.length≤1000000∧l3.length≤1000000∧l4.length≤1000000) (.same (fracE (divF ((s,l),(s2,l2)) ((s3,l3),(s4,l4))))))
theorem F_gDiv_inj:∀ a b:Int × (List Int) × Int × (List Int) × Int × (List Int) × Int × (List Int),(fun (s,l,s2,l2,s3,l3,s4,l4)=>([.agg [.int .i64 s,.sl (l.map i64L),.int .i64 s2,.sl (l2.map i64L)],.agg [.int .i64 s3,.sl (l3.map i64L),.int .i64 s4,.sl (l4.map i64L)]]:List Data)) a=(fun (s,l,s2,l2,s3,l3,s4,l4)=>([.agg [.int .i64 s,.sl (l.map i64L),.int .i64 s2,.sl (l2.map i64L)],.agg [.int .i64 s3,.sl (l3.map i64L),.int .i64 s4,.sl (l4.map i64L)]]:List Data)) b→a=b:=by
  rintro⟨s1,l1,s21,l21,s31,l31,s41,l41⟩ ⟨s2,l2,s22,l22,s32,l32,s42,l42⟩ h
  simp only[yM,Data.agg.injEq,Data.int.injEq,Data.sl.injEq] at h;exact Prod.ext h.1.1.2 (Prod.ext (map_inj i64L_inj _ _ h.1.2.1) (Prod.ext h.1.2.2.1.2 (Prod.ext (map_inj i64L_inj _ _ h.1.2.2.2.1) (Prod.ext h.2.1.1.2 (Prod.ext (map_inj i64L_inj _ _ h.2.1.2.1) (Prod.ext h.2.1.2.2.1.2 (map_inj i64L_inj _ _ h.2.1.2.2.2.1)))))))
@[go_sem] theorem F_gDiv_eq (s:Int) (l:List Int) (s2:Int) (l2:List Int) (s3:Int) (l3:List Int) (s4:Int) (l4:List Int) (hc:l.length≤1000000∧l2.length≤1000000∧l3.length≤1000000∧l4.length≤1000000):F_gDiv [.agg [.int .i64 s,.sl (l.map i64L),.int .i64 s2,.sl (l2.map i64L)],.agg [.int .i64 s3,.sl (l3.map i64L),.int .i64 s4,.sl (l4.map i64L)]]=some (.same (fracE (divF ((s,l),(s2,l2)) ((s3,l3),(s4,l4))))):=(FF_eq F_gDiv_inj (s,l,s2,l2,s3,l3,s4,l4)).trans (onlyIf_pos hc _)
theorem w_gDiv (T:Tab) (h_gRight:T id_ref05_Right=mkE F_gRight) (h_rMul:T id_ref04_Mul=mkE F_rMul) (h_gmade:T id_ref05_made=mkE F_gmade) (s:Int) (l:List Int) (s2:Int) (l2:List Int) (s3:Int) (l3:List Int) (s4:Int) (l4:List Int) (hc:l.length≤1000000∧l2.length≤1000000∧l3.length≤1000000∧l4.length≤1000000) :
  wp T mf_ref05_Div.body (endS mf_ref05_Div.res (.same (fracE (divF ((s,l),(s2,l2)) ((s3,l3),(s4,l4)))))) ⟨initTm [.dat (.agg [.int .i64 s,.sl (l.map i64L),.int .i64 s2,.sl (l2.map i64L)]),.dat (.agg [.int .i64 s3,.sl (l3.map i64L),.int .i64 s4,.sl (l4.map i64L)])],emp⟩:=by
 refine wp_start ?_
 simp only[mf_ref05_Div]
 obtain⟨hl1,hl2,hl3,hl4⟩:=hc
 by_cases hr:rightF ((s,l),(s2,l2))=true
 ·by_cases hr2:rightF ((s3,l3),(s4,l4))=true
  ·rw[div_ref hr hr2]
   dsimp only
   rcases h0:(s3==0)
   ·rw[if_neg (by simp)]
    have m1:=mulR_len (s,l) (s4,l4)
    have m2:=mulR_len (s2,l2) (s3,l3)
    generalize hM1:mulR (s,l) (s4,l4)=M1 at *
    generalize hM2:mulR (s2,l2) (s3,l3)=M2 at *
    obtain⟨⟨a1,a2⟩,e1⟩:=M1
    obtain⟨⟨b1,b2⟩,e2⟩:=M2
    unfold comb2
    dsimp only at *
    rcases h1:(e1==0)
    ·simp only[go_sem,reduceIte,yA,yB,yC,yD,yE,yH,reduceCtorEq,yF,yG,yI,h_gRight,h_rMul,h_gmade,hl1,hl2,hl3,hl4,hr,hr2,h0,hM1,hM2,m1,m2,h1,bigE,bigL,fracE,fracL,Bool.not_false,Bool.not_true,bne,Bool.false_and]
     repeat' (first|refine qqA ?_ ?_|refine qqB ?_ ?_|refine qqC ?_ ?_|refine qqD ?_ ?_|refine qqE ?_ ?_|refine qqF ?_ ?_)<;>intro h<;>simp only[h,go_sem,reduceIte,yA,yB,yC,yD,yE,yH,reduceCtorEq,yF,yG,yI,h_gRight,h_rMul,h_gmade,hl1,hl2,hl3,hl4,hr,hr2,h0,hM1,hM2,m1,m2,h1,bigE,bigL,fracE,fracL,Bool.not_false,Bool.not_true,bne,Bool.false_and]
    ·rcases h2:(e2==0)
     ·simp only[go_sem,reduceIte,yA,yB,yC,yD,yE,yH,reduceCtorEq,yF,yG,yI,h_gRight,h_rMul,h_gmade,hl1,hl2,hl3,hl4,hr,hr2,h0,hM1,hM2,m1,m2,h1,h2,bigE,bigL,fracE,fracL,Bool.not_false,Bool.not_true,bne,Bool.false_and,Bool.true_and]
      repeat' (first|refine qqA ?_ ?_|refine qqB ?_ ?_|refine qqC ?_ ?_|refine qqD ?_ ?_|refine qqE ?_ ?_|refine qqF ?_ ?_)<;>intro h<;>simp only[h,go_sem,reduceIte,yA,yB,yC,yD,yE,yH,reduceCtorEq,yF,yG,yI,h_gRight,h_rMul,h_gmade,hl1,hl2,hl3,hl4,hr,hr2,h0,hM1,hM2,m1,m2,h1,h2,bigE,bigL,fracE,fracL,Bool.not_false,Bool.not_true,bne,Bool.false_and,Bool.true_and]
     ·simp only[go_sem,reduceIte,yA,yB,yC,yD,yE,yH,reduceCtorEq,yF,yG,yI,h_gRight,h_rMul,h_gmade,hl1,hl2,hl3,hl4,hr,hr2,h0,hM1,hM2,m1,m2,h1,h2,bigE,bigL,fracE,fracL,Bool.not_false,Bool.not_true,bne,Bool.false_and,Bool.true_and]
      repeat' (first|refine qqA ?_ ?_|refine qqB ?_ ?_|refine qqC ?_ ?_|refine qqD ?_ ?_|refine qqE ?_ ?_|refine qqF ?_ ?_)<;>intro h<;>simp only[h,go_sem,reduceIte,yA,yB,yC,yD,yE,yH,reduceCtorEq,yF,yG,yI,h_gRight,h_rMul,h_gmade,hl1,hl2,hl3,hl4,hr,hr2,h0,hM1,hM2,m1,m2,h1,h2,bigE,bigL,fracE,fracL,Bool.not_false,Bool.not_true,bne,Bool.false_and,Bool.true_and]
   ·rw[if_pos rfl]
    simp only[go_sem,reduceIte,yA,yB,yC,yD,yE,yH,reduceCtorEq,yF,yG,yI,h_gRight,h_rMul,h_gmade,hl1,hl2,hl3,hl4,hr,hr2,h0,fracE,fracL,zeroF,List.map_nil]
    repeat' (first|refine qqA ?_ ?_|refine qqB ?_ ?_|refine qqC ?_ ?_|refine qqD ?_ ?_|refine qqE ?_ ?_|refine qqF ?_ ?_)<;>intro h<;>simp only[h,go_sem,reduceIte,yA,yB,yC,yD,yE,yH,reduceCtorEq,yF,yG,yI,h_gRight,h_rMul,h_gmade,hl1,hl2,hl3,hl4,hr,hr2,h0,fracE,fracL,zeroF,List.map_nil]
  ·have hr2:rightF ((s3,l3),(s4,l4))=false:=by simpa using hr2
   unfold divF
   rw[if_pos hr,if_neg (by simp [hr2])]
   simp only[go_sem,reduceIte,yA,yB,yC,yD,yE,yH,reduceCtorEq,yF,yG,yI,h_gRight,h_rMul,h_gmade,hl1,hl2,hl3,hl4,hr,hr2,fracE,fracL,zeroF,List.map_nil]
   repeat' (first|refine qqA ?_ ?_|refine qqB ?_ ?_|refine qqC ?_ ?_|refine qqD ?_ ?_|refine qqE ?_ ?_|refine qqF ?_ ?_)<;>intro h<;>simp only[h,go_sem,reduceIte,yA,yB,yC,yD,yE,yH,reduceCtorEq,yF,yG,yI,h_gRight,h_rMul,h_gmade,hl1,hl2,hl3,hl4,hr,hr2,fracE,fracL,zeroF,List.map_nil]
 ·have hr:rightF ((s,l),(s2,l2))=false:=by simpa using hr
  unfold divF
  rw[if_neg (by simp [hr])]
  simp only[go_sem,reduceIte,yA,yB,yC,yD,yE,yH,reduceCtorEq,yF,yG,yI,h_gRight,h_rMul,h_gmade,hl1,hl2,hl3,hl4,hr,fracE,fracL,zeroF,List.map_nil]
  repeat' (first|refine qqA ?_ ?_|refine qqB ?_ ?_|refine qqC ?_ ?_|refine qqD ?_ ?_|refine qqE ?_ ?_|refine qqF ?_ ?_)<;>intro h<;>simp only[h,go_sem,reduceIte,yA,yB,yC,yD,yE,yH,reduceCtorEq,yF,yG,yI,h_gRight,h_rMul,h_gmade,hl1,hl2,hl3,hl4,hr,fracE,fracL,zeroF,List.map_nil]
end Go.Mini
namespace Go.Mini
open Go
def mf_ref06_Few:MFunc :=
 { n:=42,np:=3,res:=[.t 6],body :=
 (.seq (.ops [
 ⟨some 6,none,.mv (.c (.dat (.bool false)))⟩])
 (.seq (.seq (.ops [
 ⟨some 7,none,.mv (.c (.dat (.int .i64 0)))⟩])
 (.block 0
 (.loop
 (.seq (.seq (.ops [
 ⟨some 8,none,.mv (.t 7)⟩,⟨some 9,none,.mv (.t 0)⟩,⟨some 10,none,.len (.t 9)⟩,⟨some 11,none,.bin .lss (.t 8) (.t 10)⟩,⟨some 12,none,.mv (.t 11)⟩,⟨some 13,some (12,true),.mv (.t 7)⟩,⟨some 14,some (12,true),.mv (.t 1)⟩,⟨some 15,some (12,true),.bin .leq (.t 13) (.t 14)⟩,⟨some 16,none,.pick (.t 12) (.t 15) (.c (.dat (.bool false)))⟩])
 (.cond (.t 16)
 .skip
 (.exit 0)))
 (.seq (.block 1
 (.seq (.ops [
 ⟨some 19,none,.mv (.t 0)⟩,⟨some 20,none,.mv (.t 7)⟩,⟨some 21,none,.iad 5 (.t 19) (.t 20)⟩,⟨some 22,none,.fad 0 (.t 21)⟩,⟨some 23,none,.load 1 false (.t 22)⟩,⟨some 24,none,.mv (.t 1)⟩,⟨some 25,none,.mv (.t 2)⟩,⟨some 26,none,.call id_ref06_FewFracs [(.t 23),(.t 24),(.t 25)]⟩,⟨some 27,none,.un .not (.t 26)⟩,⟨some 28,none,.mv (.t 27)⟩,⟨some 29,some (28,false),.mv (.t 0)⟩,⟨some 30,some (28,false),.mv (.t 7)⟩,⟨some 31,some (28,false),.iad 5 (.t 29) (.t 30)⟩,⟨some 32,some (28,false),.fad 1 (.t 31)⟩,⟨some 33,some (28,false),.load 4 true (.t 32)⟩,⟨some 34,some (28,false),.mv (.t 2)⟩,⟨some 35,some (28,false),.call id_ref05_Few [(.t 33),(.t 34)]⟩,⟨some 36,some (28,false),.un .not (.t 35)⟩,⟨some 37,none,.pick (.t 28) (.c (.dat (.bool true))) (.t 36)⟩])
 (.cond (.t 37)
 (.seq (.ops [
 ⟨some 6,none,.mv (.c (.dat (.bool false)))⟩])
 .ret)
 .skip)))
 (.ops [
 ⟨some 17,none,.mv (.t 7)⟩,⟨some 18,none,.bin .add (.t 17) (.c (.dat (.int .i64 1)))⟩,⟨some 7,none,.mv (.t 18)⟩]))))))
 (.seq (.ops [
 ⟨some 38,none,.mv (.t 0)⟩,⟨some 39,none,.len (.t 38)⟩,⟨some 40,none,.mv (.t 1)⟩,⟨some 41,none,.bin .leq (.t 39) (.t 40)⟩,⟨some 6,none,.mv (.t 41)⟩])
 .ret))) }
def mf_ref06_FewFracs:MFunc :=
 { n:=30,np:=3,res:=[.t 6],body :=
 (.seq (.ops [
 ⟨some 6,none,.mv (.c (.dat (.bool false)))⟩])
 (.seq (.seq (.ops [
 ⟨some 7,none,.mv (.c (.dat (.int .i64 0)))⟩])
 (.block 0
 (.loop
 (.seq (.seq (.ops [
 ⟨some 8,none,.mv (.t 7)⟩,⟨some 9,none,.mv (.t 0)⟩,⟨some 10,none,.len (.t 9)⟩,⟨some 11,none,.bin .lss (.t 8) (.t 10)⟩,⟨some 12,none,.mv (.t 11)⟩,⟨some 13,some (12,true),.mv (.t 7)⟩,⟨some 14,some (12,true),.mv (.t 1)⟩,⟨some 15,some (12,true),.bin .leq (.t 13) (.t 14)⟩,⟨some 16,none,.pick (.t 12) (.t 15) (.c (.dat (.bool false)))⟩])
 (.cond (.t 16)
 .skip
 (.exit 0)))
 (.seq (.block 1
 (.seq (.ops [
 ⟨some 19,none,.mv (.t 0)⟩,⟨some 20,none,.mv (.t 7)⟩,⟨some 21,none,.iad 4 (.t 19) (.t 20)⟩,⟨some 22,none,.load 4 true (.t 21)⟩,⟨some 23,none,.mv (.t 2)⟩,⟨some 24,none,.call id_ref05_Few [(.t 22),(.t 23)]⟩,⟨some 25,none,.un .not (.t 24)⟩])
 (.cond (.t 25)
 (.seq (.ops [
 ⟨some 6,none,.mv (.c (.dat (.bool false)))⟩])
 .ret)
 .skip)))
 (.ops [
 ⟨some 17,none,.mv (.t 7)⟩,⟨some 18,none,.bin .add (.t 17) (.c (.dat (.int .i64 1)))⟩,⟨some 7,none,.mv (.t 18)⟩]))))))
 (.seq (.ops [
 ⟨some 26,none,.mv (.t 0)⟩,⟨some 27,none,.len (.t 26)⟩,⟨some 28,none,.mv (.t 1)⟩,⟨some 29,none,.bin .leq (.t 27) (.t 28)⟩,⟨some 6,none,.mv (.t 29)⟩])
 .ret))) }
def mf_ref06_Same:MFunc :=
 { n:=27,np:=2,res:=[.t 4],body :=
 (.seq (.ops [
 ⟨some 4,none,.mv (.c (.dat (.bool false)))⟩])
 (.seq (.seq (.ops [
 ⟨some 6,none,.mv (.t 0)⟩,⟨some 7,none,.len (.t 6)⟩,⟨some 8,none,.mv (.t 1)⟩,⟨some 9,none,.len (.t 8)⟩,⟨some 10,none,.bin .neq (.t 7) (.t 9)⟩])
 (.cond (.t 10)
 (.seq (.ops [
 ⟨some 4,none,.mv (.c (.dat (.bool false)))⟩])
 .ret)
 .skip))
 (.seq (.seq (.ops [
 ⟨some 5,none,.mv (.c (.dat (.int .i64 0)))⟩])
 (.block 0
 (.loop
 (.seq (.seq (.ops [
 ⟨some 11,none,.mv (.t 5)⟩,⟨some 12,none,.mv (.t 0)⟩,⟨some 13,none,.len (.t 12)⟩,⟨some 14,none,.bin .lss (.t 11) (.t 13)⟩])
 (.cond (.t 14)
 .skip
 (.exit 0)))
 (.seq (.block 1
 (.seq (.opsD [
 ⟨some 17,none,.mv (.t 0)⟩,⟨some 18,none,.mv (.t 5)⟩,⟨some 19,none,.iad 4 (.t 17) (.t 18)⟩,⟨some 20,none,.load 4 true (.t 19)⟩,⟨some 21,none,.mv (.t 1)⟩,⟨some 22,none,.mv (.t 5)⟩,⟨some 23,none,.iad 4 (.t 21) (.t 22)⟩,⟨some 24,none,.load 4 true (.t 23)⟩,⟨some 25,none,.call id_ref05_Same [(.t 20),(.t 24)]⟩,⟨some 26,none,.un .not (.t 25)⟩] [[],[],[],[],[],[],[],[],[],[]])
 (.cond (.t 26)
 (.seq (.ops [
 ⟨some 4,none,.mv (.c (.dat (.bool false)))⟩])
 .ret)
 .skip)))
 (.ops [
 ⟨some 15,none,.mv (.t 5)⟩,⟨some 16,none,.bin .add (.t 15) (.c (.dat (.int .i64 1)))⟩,⟨some 5,none,.mv (.t 16)⟩]))))))
 (.seq (.ops [
 ⟨some 4,none,.mv (.c (.dat (.bool true)))⟩])
 .ret)))) }
def mf_ref06_Zero:MFunc :=
 { n:=7,np:=1,res:=[.t 2],body :=
 (.seq (.ops [
 ⟨some 1,none,.box 113001 (.t 0)⟩,⟨some 2,none,.mv (.c (.dat (.bool false)))⟩])
 (.seq (.ops [
 ⟨some 3,none,.fad 0 (.t 1)⟩,⟨some 4,none,.fad 0 (.t 3)⟩,⟨some 5,none,.load 1 false (.t 4)⟩,⟨some 6,none,.bin .eql (.t 5) (.c (.dat (.int .i64 0)))⟩,⟨some 2,none,.mv (.t 6)⟩])
 .ret)) }
def mf_ref06_Solve:MFunc :=
 { n:=41,np:=2,res:=[.t 4,.t 5],body :=
 (.seq (.ops [
 ⟨some 4,none,.mv (.c .nil)⟩,⟨some 5,none,.mv (.c (.dat (.int .i64 0)))⟩])
 (.seq (.seq (.ops [
 ⟨some 11,none,.mv (.t 0)⟩,⟨some 12,none,.mv (.t 1)⟩,⟨some 13,none,.call id_ref06_Right [(.t 11),(.t 12)]⟩,⟨some 14,none,.un .not (.t 13)⟩])
 (.cond (.t 14)
 (.seq (.ops [
 ⟨some 4,none,.mv (.c .nil)⟩,⟨some 5,none,.mv (.c (.dat (.int .i64 1)))⟩])
 .ret)
 .skip))
 (.seq (.ops [
 ⟨some 16,none,.mv (.t 0)⟩,⟨some 17,none,.mv (.t 1)⟩,⟨some 18,none,.call id_ref06_Eliminated [(.t 16),(.t 17),(.c (.dat (.bool true)))]⟩,⟨some 15,none,.mv (.t 18)⟩,⟨some 19,none,.ext 0 (.t 15)⟩,⟨some 20,none,.ext 1 (.t 15)⟩,⟨some 21,none,.ext 2 (.t 15)⟩,⟨some 6,none,.mv (.t 19)⟩,⟨some 7,none,.mv (.t 20)⟩,⟨some 8,none,.mv (.t 21)⟩])
 (.seq (.seq (.ops [
 ⟨some 22,none,.mv (.t 8)⟩,⟨some 23,none,.un .not (.t 22)⟩])
 (.cond (.t 23)
 (.seq (.ops [
 ⟨some 4,none,.mv (.c .nil)⟩,⟨some 5,none,.mv (.c (.dat (.int .i64 6)))⟩])
 .ret)
 .skip))
 (.seq (.seq (.ops [
 ⟨some 24,none,.mv (.t 7)⟩,⟨some 25,none,.len (.t 24)⟩,⟨some 26,none,.bin .gtr (.t 25) (.c (.dat (.int .i64 0)))⟩])
 (.cond (.t 26)
 (.seq (.ops [
 ⟨some 4,none,.mv (.c .nil)⟩,⟨some 5,none,.mv (.c (.dat (.int .i64 17)))⟩])
 .ret)
 .skip))
 (.seq (.ops [
 ⟨some 9,none,.mv (.c .nil)⟩])
 (.seq (.seq (.ops [
 ⟨some 10,none,.mv (.c (.dat (.int .i64 0)))⟩])
 (.block 0
 (.ghost (.adopt 9 189039 4) (.loop
 (.seq (.seq (.ops [
 ⟨some 27,none,.mv (.t 10)⟩,⟨some 28,none,.mv (.t 1)⟩,⟨some 29,none,.bin .lss (.t 27) (.t 28)⟩])
 (.cond (.t 29)
 .skip
 (.exit 0)))
 (.seq (.block 1
 (.ops [
 ⟨some 32,none,.mv (.t 9)⟩,⟨some 33,none,.mv (.t 6)⟩,⟨some 34,none,.mv (.t 10)⟩,⟨some 35,none,.iad 5 (.t 33) (.t 34)⟩,⟨some 36,none,.fad 1 (.t 35)⟩,⟨some 37,none,.load 4 true (.t 36)⟩,⟨some 38,none,.bsl 189038 false [(.dat (.int .i64 0)),.nil,(.dat (.int .i64 0)),.nil] 4 1 [(0,4,(.t 37))]⟩,⟨some 39,none,.app 189039 [(.dat (.int .i64 0)),.nil,(.dat (.int .i64 0)),.nil] 64 (.t 32) (.t 38)⟩,⟨some 9,none,.mv (.t 39)⟩]))
 (.ops [
 ⟨some 30,none,.mv (.t 10)⟩,⟨some 31,none,.bin .add (.t 30) (.c (.dat (.int .i64 1)))⟩,⟨some 10,none,.mv (.t 31)⟩])))))))
 (.seq (.ops [
 ⟨some 40,none,.mv (.t 9)⟩,⟨some 4,none,.mv (.t 40)⟩,⟨some 5,none,.mv (.c (.dat (.int .i64 0)))⟩])
 .ret)))))))) }
def mf_ref06_Kernel:MFunc :=
 { n:=84,np:=2,res:=[.t 4,.t 5],body :=
 (.seq (.ops [
 ⟨some 4,none,.mv (.c .nil)⟩,⟨some 5,none,.mv (.c (.dat (.bool false)))⟩])
 (.seq (.seq (.ops [
 ⟨some 18,none,.mv (.t 0)⟩,⟨some 19,none,.mv (.t 1)⟩,⟨some 20,none,.call id_ref06_Right [(.t 18),(.t 19)]⟩,⟨some 21,none,.un .not (.t 20)⟩])
 (.cond (.t 21)
 (.seq (.ops [
 ⟨some 4,none,.mv (.c .nil)⟩,⟨some 5,none,.mv (.c (.dat (.bool false)))⟩])
 .ret)
 .skip))
 (.seq (.ops [
 ⟨some 23,none,.mv (.t 0)⟩,⟨some 24,none,.mv (.t 1)⟩,⟨some 25,none,.call id_ref06_Eliminated [(.t 23),(.t 24),(.c (.dat (.bool true)))]⟩,⟨some 22,none,.mv (.t 25)⟩,⟨some 26,none,.ext 0 (.t 22)⟩,⟨some 27,none,.ext 1 (.t 22)⟩,⟨some 28,none,.ext 2 (.t 22)⟩,⟨some 6,none,.mv (.t 26)⟩,⟨some 7,none,.mv (.t 27)⟩,⟨some 8,none,.mv (.t 28)⟩])
 (.seq (.seq (.ops [
 ⟨some 29,none,.mv (.t 8)⟩,⟨some 30,none,.un .not (.t 29)⟩,⟨some 31,none,.mv (.t 30)⟩,⟨some 32,some (31,false),.mv (.t 7)⟩,⟨some 33,some (31,false),.len (.t 32)⟩,⟨some 34,some (31,false),.bin .eql (.t 33) (.c (.dat (.int .i64 0)))⟩,⟨some 35,none,.pick (.t 31) (.c (.dat (.bool true))) (.t 34)⟩])
 (.cond (.t 35)
 (.seq (.ops [
 ⟨some 4,none,.mv (.c .nil)⟩,⟨some 5,none,.mv (.c (.dat (.bool false)))⟩])
 .ret)
 .skip))
 (.seq (.ops [
 ⟨some 36,none,.mv (.t 7)⟩,⟨some 37,none,.iad 1 (.t 36) (.c (.dat (.int .i64 0)))⟩,⟨some 38,none,.load 1 false (.t 37)⟩,⟨some 9,none,.mv (.t 38)⟩])
 (.seq (.ops [
 ⟨some 40,none,.call id_ref05_Of [(.c (.dat (.int .i64 0))),(.c (.dat (.int .i64 1)))]⟩,⟨some 39,none,.mv (.t 40)⟩,⟨some 41,none,.ext 0 (.t 39)⟩,⟨some 42,none,.ext 1 (.t 39)⟩,⟨some 10,none,.alloc 190010 [(.dat (.int .i64 0)),.nil,(.dat (.int .i64 0)),.nil]⟩,⟨none,none,.store 4 (.t 10) (.t 41)⟩,⟨some 11,none,.mv (.t 42)⟩])
 (.seq (.ops [
 ⟨some 44,none,.call id_ref05_Of [(.c (.dat (.int .i64 1))),(.c (.dat (.int .i64 1)))]⟩,⟨some 43,none,.mv (.t 44)⟩,⟨some 45,none,.ext 0 (.t 43)⟩,⟨some 46,none,.ext 1 (.t 43)⟩,⟨some 12,none,.alloc 190012 [(.dat (.int .i64 0)),.nil,(.dat (.int .i64 0)),.nil]⟩,⟨none,none,.store 4 (.t 12) (.t 45)⟩,⟨some 13,none,.mv (.t 46)⟩])
 (.seq (.ops [
 ⟨some 14,none,.mv (.c .nil)⟩])
 (.seq (.seq (.ops [
 ⟨some 15,none,.mv (.c (.dat (.int .i64 0)))⟩])
 (.block 0
 (.ghost (.adopt 14 190071 4) (.loop
 (.seq (.seq (.ops [
 ⟨some 47,none,.mv (.t 15)⟩,⟨some 48,none,.mv (.t 1)⟩,⟨some 49,none,.bin .lss (.t 47) (.t 48)⟩])
 (.cond (.t 49)
 .skip
 (.exit 0)))
 (.seq (.block 1
 (.seq (.ops [
 ⟨some 52,none,.mv (.t 15)⟩,⟨some 53,none,.mv (.t 9)⟩,⟨some 54,none,.bin .lss (.t 52) (.t 53)⟩])
 (.cond (.t 54)
 (.seq (.opsD [
 ⟨some 56,none,.load 4 true (.t 10)⟩,⟨some 57,none,.mv (.t 6)⟩,⟨some 58,none,.mv (.t 15)⟩,⟨some 59,none,.iad 5 (.t 57) (.t 58)⟩,⟨some 60,none,.fad 0 (.t 59)⟩,⟨some 61,none,.load 1 false (.t 60)⟩,⟨some 62,none,.mv (.t 9)⟩,⟨some 63,none,.iad 4 (.t 61) (.t 62)⟩,⟨some 64,none,.load 4 true (.t 63)⟩,⟨some 65,none,.call id_ref05_Sub [(.t 56),(.t 64)]⟩,⟨some 55,none,.mv (.t 65)⟩,⟨some 66,none,.ext 0 (.t 55)⟩,⟨some 67,none,.ext 1 (.t 55)⟩,⟨some 16,none,.alloc 190016 [(.dat (.int .i64 0)),.nil,(.dat (.int .i64 0)),.nil]⟩,⟨none,none,.store 4 (.t 16) (.t 66)⟩,⟨some 17,none,.mv (.t 67)⟩] [[],[],[],[],[],[],[],[],[],[],[],[],[],[0,5,8],[],[]])
 (.ops [
 ⟨some 68,none,.mv (.t 14)⟩,⟨some 69,none,.load 4 true (.t 16)⟩,⟨some 70,none,.bsl 190070 false [(.dat (.int .i64 0)),.nil,(.dat (.int .i64 0)),.nil] 4 1 [(0,4,(.t 69))]⟩,⟨some 71,none,.app 190071 [(.dat (.int .i64 0)),.nil,(.dat (.int .i64 0)),.nil] 64 (.t 68) (.t 70)⟩,⟨some 14,none,.mv (.t 71)⟩]))
 (.seq (.ops [
 ⟨some 72,none,.mv (.t 15)⟩,⟨some 73,none,.mv (.t 9)⟩,⟨some 74,none,.bin .eql (.t 72) (.t 73)⟩])
 (.cond (.t 74)
 (.ops [
 ⟨some 75,none,.mv (.t 14)⟩,⟨some 76,none,.load 4 true (.t 12)⟩,⟨some 77,none,.bsl 190077 false [(.dat (.int .i64 0)),.nil,(.dat (.int .i64 0)),.nil] 4 1 [(0,4,(.t 76))]⟩,⟨some 78,none,.app 190078 [(.dat (.int .i64 0)),.nil,(.dat (.int .i64 0)),.nil] 64 (.t 75) (.t 77)⟩,⟨some 14,none,.mv (.t 78)⟩])
 (.ops [
 ⟨some 79,none,.mv (.t 14)⟩,⟨some 80,none,.load 4 true (.t 10)⟩,⟨some 81,none,.bsl 190081 false [(.dat (.int .i64 0)),.nil,(.dat (.int .i64 0)),.nil] 4 1 [(0,4,(.t 80))]⟩,⟨some 82,none,.app 190082 [(.dat (.int .i64 0)),.nil,(.dat (.int .i64 0)),.nil] 64 (.t 79) (.t 81)⟩,⟨some 14,none,.mv (.t 82)⟩]))))))
 (.ops [
 ⟨some 50,none,.mv (.t 15)⟩,⟨some 51,none,.bin .add (.t 50) (.c (.dat (.int .i64 1)))⟩,⟨some 15,none,.mv (.t 51)⟩])))))))
 (.seq (.ops [
 ⟨some 83,none,.mv (.t 14)⟩,⟨some 4,none,.mv (.t 83)⟩,⟨some 5,none,.mv (.c (.dat (.bool true)))⟩])
 .ret)))))))))) }
def mf_ref06_Rank:MFunc :=
 { n:=26,np:=2,res:=[.t 4,.t 5],body :=
 (.seq (.ops [
 ⟨some 4,none,.mv (.c (.dat (.int .i64 0)))⟩,⟨some 5,none,.mv (.c (.dat (.int .i64 0)))⟩])
 (.seq (.seq (.ops [
 ⟨some 9,none,.mv (.t 0)⟩,⟨some 10,none,.mv (.t 1)⟩,⟨some 11,none,.call id_ref06_Right [(.t 9),(.t 10)]⟩,⟨some 12,none,.un .not (.t 11)⟩])
 (.cond (.t 12)
 (.seq (.ops [
 ⟨some 4,none,.mv (.c (.dat (.int .i64 0)))⟩,⟨some 5,none,.mv (.c (.dat (.int .i64 1)))⟩])
 .ret)
 .skip))
 (.seq (.ops [
 ⟨some 14,none,.mv (.t 0)⟩,⟨some 15,none,.mv (.t 1)⟩,⟨some 16,none,.call id_ref06_Eliminated [(.t 14),(.t 15),(.c (.dat (.bool false)))]⟩,⟨some 13,none,.mv (.t 16)⟩,⟨some 17,none,.ext 0 (.t 13)⟩,⟨some 18,none,.ext 1 (.t 13)⟩,⟨some 19,none,.ext 2 (.t 13)⟩,⟨some 6,none,.mv (.t 17)⟩,⟨some 7,none,.mv (.t 18)⟩,⟨some 8,none,.mv (.t 19)⟩])
 (.seq (.seq (.ops [
 ⟨some 20,none,.mv (.t 8)⟩,⟨some 21,none,.un .not (.t 20)⟩])
 (.cond (.t 21)
 (.seq (.ops [
 ⟨some 4,none,.mv (.c (.dat (.int .i64 0)))⟩,⟨some 5,none,.mv (.c (.dat (.int .i64 6)))⟩])
 .ret)
 .skip))
 (.seq (.ops [
 ⟨some 22,none,.mv (.t 1)⟩,⟨some 23,none,.mv (.t 7)⟩,⟨some 24,none,.len (.t 23)⟩,⟨some 25,none,.bin .sub (.t 22) (.t 24)⟩,⟨some 4,none,.mv (.t 25)⟩,⟨some 5,none,.mv (.c (.dat (.int .i64 0)))⟩])
 .ret))))) }
def mf_ref06_Right:MFunc :=
 { n:=56,np:=2,res:=[.t 4],body :=
 (.seq (.ops [
 ⟨some 4,none,.mv (.c (.dat (.bool false)))⟩])
 (.seq (.seq (.ops [
 ⟨some 7,none,.mv (.t 1)⟩,⟨some 8,none,.bin .lss (.t 7) (.c (.dat (.int .i64 0)))⟩,⟨some 9,none,.mv (.t 8)⟩,⟨some 10,some (9,false),.mv (.t 1)⟩,⟨some 11,some (9,false),.bin .gtr (.t 10) (.c (.dat (.int .i64 40)))⟩,⟨some 12,none,.pick (.t 9) (.c (.dat (.bool true))) (.t 11)⟩,⟨some 13,none,.mv (.t 12)⟩,⟨some 14,some (13,false),.mv (.t 0)⟩,⟨some 15,some (13,false),.len (.t 14)⟩,⟨some 16,some (13,false),.mv (.t 1)⟩,⟨some 17,some (13,false),.bin .neq (.t 15) (.t 16)⟩,⟨some 18,none,.pick (.t 13) (.c (.dat (.bool true))) (.t 17)⟩])
 (.cond (.t 18)
 (.seq (.ops [
 ⟨some 4,none,.mv (.c (.dat (.bool false)))⟩])
 .ret)
 .skip))
 (.seq (.seq (.ops [
 ⟨some 5,none,.mv (.c (.dat (.int .i64 0)))⟩])
 (.block 0
 (.loop
 (.seq (.seq (.ops [
 ⟨some 19,none,.mv (.t 5)⟩,⟨some 20,none,.mv (.t 1)⟩,⟨some 21,none,.bin .lss (.t 19) (.t 20)⟩])
 (.cond (.t 21)
 .skip
 (.exit 0)))
 (.seq (.block 1
 (.seq (.seq (.ops [
 ⟨some 24,none,.mv (.t 0)⟩,⟨some 25,none,.mv (.t 5)⟩,⟨some 26,none,.iad 5 (.t 24) (.t 25)⟩,⟨some 27,none,.fad 0 (.t 26)⟩,⟨some 28,none,.load 1 false (.t 27)⟩,⟨some 29,none,.len (.t 28)⟩,⟨some 30,none,.mv (.t 1)⟩,⟨some 31,none,.bin .neq (.t 29) (.t 30)⟩,⟨some 32,none,.mv (.t 31)⟩,⟨some 33,some (32,false),.mv (.t 0)⟩,⟨some 34,some (32,false),.mv (.t 5)⟩,⟨some 35,some (32,false),.iad 5 (.t 33) (.t 34)⟩,⟨some 36,some (32,false),.fad 1 (.t 35)⟩,⟨some 37,some (32,false),.load 4 true (.t 36)⟩,⟨some 38,some (32,false),.call id_ref05_Right [(.t 37)]⟩,⟨some 39,some (32,false),.un .not (.t 38)⟩,⟨some 40,none,.pick (.t 32) (.c (.dat (.bool true))) (.t 39)⟩])
 (.cond (.t 40)
 (.seq (.ops [
 ⟨some 4,none,.mv (.c (.dat (.bool false)))⟩])
 .ret)
 .skip))
 (.seq (.ops [
 ⟨some 6,none,.mv (.c (.dat (.int .i64 0)))⟩])
 (.block 2
 (.loop
 (.seq (.seq (.ops [
 ⟨some 41,none,.mv (.t 6)⟩,⟨some 42,none,.mv (.t 1)⟩,⟨some 43,none,.bin .lss (.t 41) (.t 42)⟩])
 (.cond (.t 43)
 .skip
 (.exit 2)))
 (.seq (.block 3
 (.seq (.ops [
 ⟨some 46,none,.mv (.t 0)⟩,⟨some 47,none,.mv (.t 5)⟩,⟨some 48,none,.iad 5 (.t 46) (.t 47)⟩,⟨some 49,none,.fad 0 (.t 48)⟩,⟨some 50,none,.load 1 false (.t 49)⟩,⟨some 51,none,.mv (.t 6)⟩,⟨some 52,none,.iad 4 (.t 50) (.t 51)⟩,⟨some 53,none,.load 4 true (.t 52)⟩,⟨some 54,none,.call id_ref05_Right [(.t 53)]⟩,⟨some 55,none,.un .not (.t 54)⟩])
 (.cond (.t 55)
 (.seq (.ops [
 ⟨some 4,none,.mv (.c (.dat (.bool false)))⟩])
 .ret)
 .skip)))
 (.ops [
 ⟨some 44,none,.mv (.t 6)⟩,⟨some 45,none,.bin .add (.t 44) (.c (.dat (.int .i64 1)))⟩,⟨some 6,none,.mv (.t 45)⟩]))))))))
 (.ops [
 ⟨some 22,none,.mv (.t 5)⟩,⟨some 23,none,.bin .add (.t 22) (.c (.dat (.int .i64 1)))⟩,⟨some 5,none,.mv (.t 23)⟩]))))))
 (.seq (.ops [
 ⟨some 4,none,.mv (.c (.dat (.bool true)))⟩])
 .ret)))) }
def mf_ref06_Check:MFunc :=
 { n:=86,np:=3,res:=[.t 6],body :=
 (.seq (.ops [
 ⟨some 6,none,.mv (.c (.dat (.bool false)))⟩])
 (.seq (.seq (.ops [
 ⟨some 16,none,.mv (.t 0)⟩,⟨some 17,none,.mv (.t 1)⟩,⟨some 18,none,.call id_ref06_Right [(.t 16),(.t 17)]⟩,⟨some 19,none,.un .not (.t 18)⟩,⟨some 20,none,.mv (.t 19)⟩,⟨some 21,some (20,false),.mv (.t 2)⟩,⟨some 22,some (20,false),.len (.t 21)⟩,⟨some 23,some (20,false),.mv (.t 1)⟩,⟨some 24,some (20,false),.bin .neq (.t 22) (.t 23)⟩,⟨some 25,none,.pick (.t 20) (.c (.dat (.bool true))) (.t 24)⟩])
 (.cond (.t 25)
 (.seq (.ops [
 ⟨some 6,none,.mv (.c (.dat (.bool false)))⟩])
 .ret)
 .skip))
 (.seq (.seq (.ops [
 ⟨some 7,none,.mv (.c (.dat (.int .i64 0)))⟩])
 (.block 0
 (.loop
 (.seq (.seq (.ops [
 ⟨some 26,none,.mv (.t 7)⟩,⟨some 27,none,.mv (.t 1)⟩,⟨some 28,none,.bin .lss (.t 26) (.t 27)⟩])
 (.cond (.t 28)
 .skip
 (.exit 0)))
 (.seq (.block 1
 (.seq (.ops [
 ⟨some 31,none,.mv (.t 2)⟩,⟨some 32,none,.mv (.t 7)⟩,⟨some 33,none,.iad 4 (.t 31) (.t 32)⟩,⟨some 34,none,.load 4 true (.t 33)⟩,⟨some 35,none,.call id_ref05_Right [(.t 34)]⟩,⟨some 36,none,.un .not (.t 35)⟩])
 (.cond (.t 36)
 (.seq (.ops [
 ⟨some 6,none,.mv (.c (.dat (.bool false)))⟩])
 .ret)
 .skip)))
 (.ops [
 ⟨some 29,none,.mv (.t 7)⟩,⟨some 30,none,.bin .add (.t 29) (.c (.dat (.int .i64 1)))⟩,⟨some 7,none,.mv (.t 30)⟩]))))))
 (.seq (.seq (.ops [
 ⟨some 8,none,.mv (.c (.dat (.int .i64 0)))⟩])
 (.block 2
 (.loop
 (.seq (.seq (.ops [
 ⟨some 37,none,.mv (.t 8)⟩,⟨some 38,none,.mv (.t 1)⟩,⟨some 39,none,.bin .lss (.t 37) (.t 38)⟩])
 (.cond (.t 39)
 .skip
 (.exit 2)))
 (.seq (.block 3
 (.seq (.ops [
 ⟨some 43,none,.call id_ref05_Of [(.c (.dat (.int .i64 0))),(.c (.dat (.int .i64 1)))]⟩,⟨some 42,none,.mv (.t 43)⟩,⟨some 44,none,.ext 0 (.t 42)⟩,⟨some 45,none,.ext 1 (.t 42)⟩,⟨some 9,none,.alloc 193009 [(.dat (.int .i64 0)),.nil,(.dat (.int .i64 0)),.nil]⟩,⟨none,none,.store 4 (.t 9) (.t 44)⟩,⟨some 10,none,.mv (.t 45)⟩])
 (.seq (.seq (.ops [
 ⟨some 11,none,.mv (.c (.dat (.int .i64 0)))⟩])
 (.block 4
 (.loop
 (.seq (.seq (.ops [
 ⟨some 46,none,.mv (.t 11)⟩,⟨some 47,none,.mv (.t 1)⟩,⟨some 48,none,.bin .lss (.t 46) (.t 47)⟩])
 (.cond (.t 48)
 .skip
 (.exit 4)))
 (.seq (.block 5
 (.seq (.opsD [
 ⟨some 52,none,.mv (.t 0)⟩,⟨some 53,none,.mv (.t 8)⟩,⟨some 54,none,.iad 5 (.t 52) (.t 53)⟩,⟨some 55,none,.fad 0 (.t 54)⟩,⟨some 56,none,.load 1 false (.t 55)⟩,⟨some 57,none,.mv (.t 11)⟩,⟨some 58,none,.iad 4 (.t 56) (.t 57)⟩,⟨some 59,none,.load 4 true (.t 58)⟩,⟨some 60,none,.mv (.t 2)⟩,⟨some 61,none,.mv (.t 11)⟩,⟨some 62,none,.iad 4 (.t 60) (.t 61)⟩,⟨some 63,none,.load 4 true (.t 62)⟩,⟨some 64,none,.call id_ref05_Mul [(.t 59),(.t 63)]⟩,⟨some 51,none,.mv (.t 64)⟩,⟨some 65,none,.ext 0 (.t 51)⟩,⟨some 66,none,.ext 1 (.t 51)⟩,⟨some 12,none,.alloc 193012 [(.dat (.int .i64 0)),.nil,(.dat (.int .i64 0)),.nil]⟩,⟨none,none,.store 4 (.t 12) (.t 65)⟩,⟨some 13,none,.mv (.t 66)⟩] [[],[],[],[],[],[],[],[],[],[],[],[],[],[],[],[],[4,7,11],[],[]])
 (.seq (.seq (.ops [
 ⟨some 67,none,.mv (.t 13)⟩,⟨some 68,none,.bin .neq (.t 67) (.c (.dat (.int .i64 0)))⟩])
 (.cond (.t 68)
 (.seq (.ops [
 ⟨some 6,none,.mv (.c (.dat (.bool false)))⟩])
 .ret)
 .skip))
 (.seq (.ops [
 ⟨some 70,none,.load 4 true (.t 9)⟩,⟨some 71,none,.load 4 true (.t 12)⟩,⟨some 72,none,.call id_ref05_Add [(.t 70),(.t 71)]⟩,⟨some 69,none,.mv (.t 72)⟩,⟨some 73,none,.ext 0 (.t 69)⟩,⟨some 74,none,.ext 1 (.t 69)⟩,⟨some 14,none,.alloc 193014 [(.dat (.int .i64 0)),.nil,(.dat (.int .i64 0)),.nil]⟩,⟨none,none,.store 4 (.t 14) (.t 73)⟩,⟨some 15,none,.mv (.t 74)⟩])
 (.seq (.seq (.ops [
 ⟨some 75,none,.mv (.t 15)⟩,⟨some 76,none,.bin .neq (.t 75) (.c (.dat (.int .i64 0)))⟩])
 (.cond (.t 76)
 (.seq (.ops [
 ⟨some 6,none,.mv (.c (.dat (.bool false)))⟩])
 .ret)
 .skip))
 (.ops [
 ⟨some 77,none,.load 4 true (.t 14)⟩,⟨none,none,.store 4 (.t 9) (.t 77)⟩]))))))
 (.ops [
 ⟨some 49,none,.mv (.t 11)⟩,⟨some 50,none,.bin .add (.t 49) (.c (.dat (.int .i64 1)))⟩,⟨some 11,none,.mv (.t 50)⟩]))))))
 (.seq (.opsD [
 ⟨some 78,none,.load 4 true (.t 9)⟩,⟨some 79,none,.mv (.t 0)⟩,⟨some 80,none,.mv (.t 8)⟩,⟨some 81,none,.iad 5 (.t 79) (.t 80)⟩,⟨some 82,none,.fad 1 (.t 81)⟩,⟨some 83,none,.load 4 true (.t 82)⟩,⟨some 84,none,.call id_ref05_Same [(.t 78),(.t 83)]⟩,⟨some 85,none,.un .not (.t 84)⟩] [[],[],[],[],[],[],[],[]])
 (.cond (.t 85)
 (.seq (.ops [
 ⟨some 6,none,.mv (.c (.dat (.bool false)))⟩])
 .ret)
 .skip)))))
 (.ops [
 ⟨some 40,none,.mv (.t 8)⟩,⟨some 41,none,.bin .add (.t 40) (.c (.dat (.int .i64 1)))⟩,⟨some 8,none,.mv (.t 41)⟩]))))))
 (.seq (.ops [
 ⟨some 6,none,.mv (.c (.dat (.bool true)))⟩])
 .ret))))) }
def mf_ref06_Eliminated:MFunc :=
 { n:=132,np:=3,res:=[.t 6,.t 7,.t 8],body :=
 (.seq (.ops [
 ⟨some 6,none,.mv (.c .nil)⟩,⟨some 7,none,.mv (.c .nil)⟩,⟨some 8,none,.mv (.c (.dat (.bool false)))⟩])
 (.seq (.ops [
 ⟨some 20,none,.mv (.t 0)⟩,⟨some 21,none,.callo 194021 5 id_ref06_Copied [(.t 20)]⟩,⟨some 9,none,.mv (.t 21)⟩])
 (.seq (.ops [
 ⟨some 10,none,.mv (.c .nil)⟩])
 (.seq (.ops [
 ⟨some 11,none,.mv (.c (.dat (.int .i64 0)))⟩])
 (.seq (.seq (.ops [
 ⟨some 12,none,.mv (.c (.dat (.int .i64 0)))⟩])
 (.block 0
 (.ghost (.adopt 10 194050 1) (.loop
 (.seq (.seq (.ops [
 ⟨some 22,none,.mv (.t 12)⟩,⟨some 23,none,.mv (.t 1)⟩,⟨some 24,none,.bin .lss (.t 22) (.t 23)⟩])
 (.cond (.t 24)
 .skip
 (.exit 0)))
 (.seq (.block 1
 (.seq (.ghost (.move) (.ops [
 ⟨some 27,none,.mv (.t 11)⟩,⟨some 13,none,.mv (.t 27)⟩]))
 (.seq (.block 2
 (.loop
 (.seq (.seq (.ops [
 ⟨some 28,none,.mv (.t 13)⟩,⟨some 29,none,.mv (.t 1)⟩,⟨some 30,none,.bin .lss (.t 28) (.t 29)⟩,⟨some 31,none,.mv (.t 30)⟩,⟨some 32,some (31,true),.mv (.t 9)⟩,⟨some 33,some (31,true),.mv (.t 13)⟩,⟨some 34,some (31,true),.iad 5 (.t 32) (.t 33)⟩,⟨some 35,some (31,true),.fad 0 (.t 34)⟩,⟨some 36,some (31,true),.load 1 false (.t 35)⟩,⟨some 37,some (31,true),.mv (.t 12)⟩,⟨some 38,some (31,true),.iad 4 (.t 36) (.t 37)⟩,⟨some 39,some (31,true),.load 4 true (.t 38)⟩,⟨some 40,some (31,true),.call id_ref06_Zero [(.t 39)]⟩,⟨some 41,none,.pick (.t 31) (.t 40) (.c (.dat (.bool false)))⟩])
 (.cond (.t 41)
 .skip
 (.exit 2)))
 (.block 3
 (.ops [
 ⟨some 42,none,.mv (.t 13)⟩,⟨some 43,none,.bin .add (.t 42) (.c (.dat (.int .i64 1)))⟩,⟨some 13,none,.mv (.t 43)⟩])))))
 (.seq (.seq (.ghost (.move) (.ops [
 ⟨some 44,none,.mv (.t 13)⟩,⟨some 45,none,.mv (.t 1)⟩,⟨some 46,none,.bin .eql (.t 44) (.t 45)⟩]))
 (.cond (.t 46)
 (.seq (.ops [
 ⟨some 47,none,.mv (.t 10)⟩,⟨some 48,none,.mv (.t 12)⟩,⟨some 49,none,.bsl 194049 false [(.dat (.int .i64 0))] 1 1 [(0,1,(.t 48))]⟩,⟨some 50,none,.app 194050 [(.dat (.int .i64 0))] 8 (.t 47) (.t 49)⟩,⟨some 10,none,.mv (.t 50)⟩])
 (.seq (.seq (.ops [
 ⟨some 51,none,.mv (.t 2)⟩])
 (.cond (.t 51)
 (.seq (.ops [
 ⟨some 52,none,.mv (.t 9)⟩,⟨some 53,none,.mv (.t 10)⟩,⟨some 6,none,.mv (.t 52)⟩,⟨some 7,none,.mv (.t 53)⟩,⟨some 8,none,.mv (.c (.dat (.bool true)))⟩])
 .ret)
 .skip))
 (.exit 1)))
 .skip))
 (.seq (.ghost (.move) (.ops [
 ⟨some 54,none,.mv (.t 9)⟩,⟨some 55,none,.mv (.t 11)⟩,⟨some 56,none,.iad 5 (.t 54) (.t 55)⟩,⟨some 57,none,.load 5 true (.t 56)⟩,⟨some 14,none,.alloc 194014 [.nil,(.dat (.int .i64 0)),.nil,(.dat (.int .i64 0)),.nil]⟩,⟨none,none,.store 5 (.t 14) (.t 57)⟩]))
 (.seq (.ops [
 ⟨some 58,none,.mv (.t 9)⟩,⟨some 59,none,.mv (.t 11)⟩,⟨some 60,none,.mv (.t 9)⟩,⟨some 61,none,.mv (.t 13)⟩,⟨some 62,none,.iad 5 (.t 60) (.t 61)⟩,⟨some 63,none,.load 5 true (.t 62)⟩,⟨some 64,none,.iad 5 (.t 58) (.t 59)⟩,⟨none,none,.store 5 (.t 64) (.t 63)⟩])
 (.seq (.ops [
 ⟨some 65,none,.mv (.t 9)⟩,⟨some 66,none,.mv (.t 13)⟩,⟨some 67,none,.load 5 true (.t 14)⟩,⟨some 68,none,.iad 5 (.t 65) (.t 66)⟩,⟨none,none,.store 5 (.t 68) (.t 67)⟩])
 (.seq (.ops [
 ⟨some 70,none,.mv (.t 9)⟩,⟨some 71,none,.mv (.t 11)⟩,⟨some 72,none,.iad 5 (.t 70) (.t 71)⟩,⟨some 73,none,.load 5 true (.t 72)⟩,⟨some 74,none,.mv (.t 1)⟩,⟨some 75,none,.mv (.t 12)⟩,⟨some 76,none,.call id_ref06_divided [(.t 73),(.t 74),(.t 75)]⟩,⟨some 69,none,.mv (.t 76)⟩,⟨some 77,none,.ext 0 (.t 69)⟩,⟨some 78,none,.ext 1 (.t 69)⟩,⟨some 15,none,.alloc 194015 [.nil,(.dat (.int .i64 0)),.nil,(.dat (.int .i64 0)),.nil]⟩,⟨none,none,.store 5 (.t 15) (.t 77)⟩,⟨some 16,none,.mv (.t 78)⟩])
 (.seq (.seq (.ghost (.move) (.ops [
 ⟨some 79,none,.mv (.t 16)⟩,⟨some 80,none,.un .not (.t 79)⟩]))
 (.cond (.t 80)
 (.seq (.ops [
 ⟨some 81,none,.mv (.t 9)⟩,⟨some 82,none,.mv (.t 10)⟩,⟨some 6,none,.mv (.t 81)⟩,⟨some 7,none,.mv (.t 82)⟩,⟨some 8,none,.mv (.c (.dat (.bool false)))⟩])
 .ret)
 .skip))
 (.seq (.ops [
 ⟨some 83,none,.mv (.t 9)⟩,⟨some 84,none,.mv (.t 11)⟩,⟨some 85,none,.load 5 true (.t 15)⟩,⟨some 86,none,.iad 5 (.t 83) (.t 84)⟩,⟨none,none,.store 5 (.t 86) (.t 85)⟩])
 (.seq (.seq (.ops [
 ⟨some 17,none,.mv (.c (.dat (.int .i64 0)))⟩])
 (.block 4
 (.loop
 (.seq (.seq (.ops [
 ⟨some 87,none,.mv (.t 17)⟩,⟨some 88,none,.mv (.t 1)⟩,⟨some 89,none,.bin .lss (.t 87) (.t 88)⟩])
 (.cond (.t 89)
 .skip
 (.exit 4)))
 (.seq (.block 5
 (.seq (.seq (.ops [
 ⟨some 92,none,.mv (.t 17)⟩,⟨some 93,none,.mv (.t 11)⟩,⟨some 94,none,.bin .eql (.t 92) (.t 93)⟩,⟨some 95,none,.mv (.t 94)⟩,⟨some 96,some (95,false),.mv (.t 9)⟩,⟨some 97,some (95,false),.mv (.t 17)⟩,⟨some 98,some (95,false),.iad 5 (.t 96) (.t 97)⟩,⟨some 99,some (95,false),.fad 0 (.t 98)⟩,⟨some 100,some (95,false),.load 1 false (.t 99)⟩,⟨some 101,some (95,false),.mv (.t 12)⟩,⟨some 102,some (95,false),.iad 4 (.t 100) (.t 101)⟩,⟨some 103,some (95,false),.load 4 true (.t 102)⟩,⟨some 104,some (95,false),.call id_ref06_Zero [(.t 103)]⟩,⟨some 105,none,.pick (.t 95) (.c (.dat (.bool true))) (.t 104)⟩])
 (.cond (.t 105)
 (.exit 5)
 .skip))
 (.seq (.opsD [
 ⟨some 107,none,.mv (.t 9)⟩,⟨some 108,none,.mv (.t 17)⟩,⟨some 109,none,.iad 5 (.t 107) (.t 108)⟩,⟨some 110,none,.load 5 true (.t 109)⟩,⟨some 111,none,.mv (.t 9)⟩,⟨some 112,none,.mv (.t 11)⟩,⟨some 113,none,.iad 5 (.t 111) (.t 112)⟩,⟨some 114,none,.load 5 true (.t 113)⟩,⟨some 115,none,.mv (.t 1)⟩,⟨some 116,none,.mv (.t 12)⟩,⟨some 117,none,.call id_ref06_reduced [(.t 110),(.t 114),(.t 115),(.t 116)]⟩,⟨some 106,none,.mv (.t 117)⟩,⟨some 118,none,.ext 0 (.t 106)⟩,⟨some 119,none,.ext 1 (.t 106)⟩,⟨some 18,none,.alloc 194018 [.nil,(.dat (.int .i64 0)),.nil,(.dat (.int .i64 0)),.nil]⟩,⟨none,none,.store 5 (.t 18) (.t 118)⟩,⟨some 19,none,.mv (.t 119)⟩] [[],[],[],[],[],[],[],[],[],[],[],[],[],[],[3,7],[],[]])
 (.seq (.seq (.ops [
 ⟨some 120,none,.mv (.t 19)⟩,⟨some 121,none,.un .not (.t 120)⟩])
 (.cond (.t 121)
 (.seq (.ops [
 ⟨some 122,none,.mv (.t 9)⟩,⟨some 123,none,.mv (.t 10)⟩,⟨some 6,none,.mv (.t 122)⟩,⟨some 7,none,.mv (.t 123)⟩,⟨some 8,none,.mv (.c (.dat (.bool false)))⟩])
 .ret)
 .skip))
 (.ops [
 ⟨some 124,none,.mv (.t 9)⟩,⟨some 125,none,.mv (.t 17)⟩,⟨some 126,none,.load 5 true (.t 18)⟩,⟨some 127,none,.iad 5 (.t 124) (.t 125)⟩,⟨none,none,.store 5 (.t 127) (.t 126)⟩])))))
 (.ops [
 ⟨some 90,none,.mv (.t 17)⟩,⟨some 91,none,.bin .add (.t 90) (.c (.dat (.int .i64 1)))⟩,⟨some 17,none,.mv (.t 91)⟩]))))))
 (.ops [
 ⟨some 128,none,.mv (.t 11)⟩,⟨some 129,none,.bin .add (.t 128) (.c (.dat (.int .i64 1)))⟩,⟨some 11,none,.mv (.t 129)⟩]))))))))))))
 (.ops [
 ⟨some 25,none,.mv (.t 12)⟩,⟨some 26,none,.bin .add (.t 25) (.c (.dat (.int .i64 1)))⟩,⟨some 12,none,.mv (.t 26)⟩])))))))
 (.seq (.ops [
 ⟨some 130,none,.mv (.t 9)⟩,⟨some 131,none,.mv (.t 10)⟩,⟨some 6,none,.mv (.t 130)⟩,⟨some 7,none,.mv (.t 131)⟩,⟨some 8,none,.mv (.c (.dat (.bool true)))⟩])
 .ret)))))) }
def mf_ref06_Copied:MFunc :=
 { n:=28,np:=1,res:=[.t 2],body :=
 (.seq (.ops [
 ⟨some 2,none,.mv (.c .nil)⟩])
 (.seq (.ops [
 ⟨some 3,none,.mv (.c .nil)⟩])
 (.seq (.seq (.ops [
 ⟨some 4,none,.mv (.c (.dat (.int .i64 0)))⟩])
 (.block 0
 (.ghost (.adopt 3 199026 5) (.loop
 (.seq (.seq (.ops [
 ⟨some 5,none,.mv (.t 4)⟩,⟨some 6,none,.mv (.t 0)⟩,⟨some 7,none,.len (.t 6)⟩,⟨some 8,none,.bin .lss (.t 5) (.t 7)⟩])
 (.cond (.t 8)
 .skip
 (.exit 0)))
 (.seq (.block 1
 (.opsD [
 ⟨some 11,none,.mv (.t 3)⟩,⟨some 12,none,.bsl 199012 true [] 4 0 []⟩,⟨some 13,none,.mv (.t 0)⟩,⟨some 14,none,.mv (.t 4)⟩,⟨some 15,none,.iad 5 (.t 13) (.t 14)⟩,⟨some 16,none,.fad 0 (.t 15)⟩,⟨some 17,none,.load 1 false (.t 16)⟩,⟨some 18,none,.app 199018 [(.dat (.int .i64 0)),.nil,(.dat (.int .i64 0)),.nil] 64 (.t 12) (.t 17)⟩,⟨some 19,none,.mv (.t 0)⟩,⟨some 20,none,.mv (.t 4)⟩,⟨some 21,none,.iad 5 (.t 19) (.t 20)⟩,⟨some 22,none,.fad 1 (.t 21)⟩,⟨some 23,none,.load 4 true (.t 22)⟩,⟨some 24,none,.build [.nil,(.dat (.int .i64 0)),.nil,(.dat (.int .i64 0)),.nil] [(0,1,(.t 18)),(1,4,(.t 23))]⟩,⟨some 25,none,.bsl 199025 true [.nil,(.dat (.int .i64 0)),.nil,(.dat (.int .i64 0)),.nil] 5 1 [(0,5,(.t 24))]⟩,⟨some 26,none,.app 199026 [.nil,(.dat (.int .i64 0)),.nil,(.dat (.int .i64 0)),.nil] 88 (.t 11) (.t 25)⟩,⟨some 3,none,.mv (.t 26)⟩] [[],[],[],[],[],[],[1],[],[],[],[],[],[1,7],[],[],[],[]]))
 (.ghost (.move) (.ops [
 ⟨some 9,none,.mv (.t 4)⟩,⟨some 10,none,.bin .add (.t 9) (.c (.dat (.int .i64 1)))⟩,⟨some 4,none,.mv (.t 10)⟩]))))))))
 (.seq (.ops [
 ⟨some 27,none,.mv (.t 3)⟩,⟨some 2,none,.mv (.t 27)⟩])
 .ret)))) }
def mf_ref06_divided:MFunc :=
 { n:=60,np:=3,res:=[.cell 6 5 true,.t 7],body :=
 (.seq (.ops [
 ⟨some 3,none,.box 200003 (.t 0)⟩,⟨some 6,none,.alloc 200006 [.nil,(.dat (.int .i64 0)),.nil,(.dat (.int .i64 0)),.nil]⟩,⟨some 7,none,.mv (.c (.dat (.bool false)))⟩])
 (.seq (.ops [
 ⟨some 15,none,.fad 0 (.t 3)⟩,⟨some 16,none,.load 1 false (.t 15)⟩,⟨some 17,none,.mv (.t 2)⟩,⟨some 18,none,.iad 4 (.t 16) (.t 17)⟩,⟨some 19,none,.load 4 true (.t 18)⟩,⟨some 8,none,.alloc 200008 [(.dat (.int .i64 0)),.nil,(.dat (.int .i64 0)),.nil]⟩,⟨none,none,.store 4 (.t 8) (.t 19)⟩])
 (.seq (.ops [
 ⟨some 20,none,.bsl 200020 true [] 4 0 []⟩,⟨some 21,none,.fad 0 (.t 3)⟩,⟨some 22,none,.load 1 false (.t 21)⟩,⟨some 23,none,.app 200023 [(.dat (.int .i64 0)),.nil,(.dat (.int .i64 0)),.nil] 64 (.t 20) (.t 22)⟩,⟨some 24,none,.build [.nil,(.dat (.int .i64 0)),.nil,(.dat (.int .i64 0)),.nil] [(0,1,(.t 23))]⟩,⟨some 9,none,.alloc 200009 [.nil,(.dat (.int .i64 0)),.nil,(.dat (.int .i64 0)),.nil]⟩,⟨none,none,.store 5 (.t 9) (.t 24)⟩])
 (.seq (.seq (.ops [
 ⟨some 10,none,.mv (.c (.dat (.int .i64 0)))⟩])
 (.block 0
 (.loop
 (.seq (.seq (.ops [
 ⟨some 25,none,.mv (.t 10)⟩,⟨some 26,none,.mv (.t 1)⟩,⟨some 27,none,.bin .lss (.t 25) (.t 26)⟩])
 (.cond (.t 27)
 .skip
 (.exit 0)))
 (.seq (.block 1
 (.seq (.opsD [
 ⟨some 31,none,.fad 0 (.t 3)⟩,⟨some 32,none,.load 1 false (.t 31)⟩,⟨some 33,none,.mv (.t 10)⟩,⟨some 34,none,.iad 4 (.t 32) (.t 33)⟩,⟨some 35,none,.load 4 true (.t 34)⟩,⟨some 36,none,.load 4 true (.t 8)⟩,⟨some 37,none,.call id_ref05_Div [(.t 35),(.t 36)]⟩,⟨some 30,none,.mv (.t 37)⟩,⟨some 38,none,.ext 0 (.t 30)⟩,⟨some 39,none,.ext 1 (.t 30)⟩,⟨some 11,none,.alloc 200011 [(.dat (.int .i64 0)),.nil,(.dat (.int .i64 0)),.nil]⟩,⟨none,none,.store 4 (.t 11) (.t 38)⟩,⟨some 12,none,.mv (.t 39)⟩] [[],[],[],[],[],[],[],[],[],[],[1,4,5],[],[]])
 (.seq (.seq (.ops [
 ⟨some 40,none,.mv (.t 12)⟩,⟨some 41,none,.bin .neq (.t 40) (.c (.dat (.int .i64 0)))⟩])
 (.cond (.t 41)
 (.seq (.ops [
 ⟨some 42,none,.load 5 true (.t 9)⟩,⟨none,none,.store 5 (.t 6) (.t 42)⟩,⟨some 7,none,.mv (.c (.dat (.bool false)))⟩])
 .ret)
 .skip))
 (.ops [
 ⟨some 43,none,.fad 0 (.t 9)⟩,⟨some 44,none,.load 1 false (.t 43)⟩,⟨some 45,none,.mv (.t 10)⟩,⟨some 46,none,.load 4 true (.t 11)⟩,⟨some 47,none,.iad 4 (.t 44) (.t 45)⟩,⟨none,none,.store 4 (.t 47) (.t 46)⟩]))))
 (.ops [
 ⟨some 28,none,.mv (.t 10)⟩,⟨some 29,none,.bin .add (.t 28) (.c (.dat (.int .i64 1)))⟩,⟨some 10,none,.mv (.t 29)⟩]))))))
 (.seq (.ops [
 ⟨some 49,none,.fad 1 (.t 3)⟩,⟨some 50,none,.load 4 true (.t 49)⟩,⟨some 51,none,.load 4 true (.t 8)⟩,⟨some 52,none,.call id_ref05_Div [(.t 50),(.t 51)]⟩,⟨some 48,none,.mv (.t 52)⟩,⟨some 53,none,.ext 0 (.t 48)⟩,⟨some 54,none,.ext 1 (.t 48)⟩,⟨some 13,none,.alloc 200013 [(.dat (.int .i64 0)),.nil,(.dat (.int .i64 0)),.nil]⟩,⟨none,none,.store 4 (.t 13) (.t 53)⟩,⟨some 14,none,.mv (.t 54)⟩])
 (.seq (.ops [
 ⟨some 55,none,.load 4 true (.t 13)⟩,⟨some 56,none,.fad 1 (.t 9)⟩,⟨none,none,.store 4 (.t 56) (.t 55)⟩])
 (.seq (.ops [
 ⟨some 57,none,.load 5 true (.t 9)⟩,⟨some 58,none,.mv (.t 14)⟩,⟨some 59,none,.bin .eql (.t 58) (.c (.dat (.int .i64 0)))⟩,⟨none,none,.store 5 (.t 6) (.t 57)⟩,⟨some 7,none,.mv (.t 59)⟩])
 .ret))))))) }
def mf_ref06_reduced:MFunc :=
 { n:=69,np:=4,res:=[.cell 8 5 true,.t 9],body :=
 (.seq (.ops [
 ⟨some 4,none,.box 201004 (.t 0)⟩,⟨some 5,none,.box 201005 (.t 1)⟩,⟨some 8,none,.alloc 201008 [.nil,(.dat (.int .i64 0)),.nil,(.dat (.int .i64 0)),.nil]⟩,⟨some 9,none,.mv (.c (.dat (.bool false)))⟩])
 (.seq (.ops [
 ⟨some 17,none,.fad 0 (.t 4)⟩,⟨some 18,none,.load 1 false (.t 17)⟩,⟨some 19,none,.mv (.t 3)⟩,⟨some 20,none,.iad 4 (.t 18) (.t 19)⟩,⟨some 21,none,.load 4 true (.t 20)⟩,⟨some 10,none,.alloc 201010 [(.dat (.int .i64 0)),.nil,(.dat (.int .i64 0)),.nil]⟩,⟨none,none,.store 4 (.t 10) (.t 21)⟩])
 (.seq (.ops [
 ⟨some 22,none,.bsl 201022 true [] 4 0 []⟩,⟨some 23,none,.fad 0 (.t 4)⟩,⟨some 24,none,.load 1 false (.t 23)⟩,⟨some 25,none,.app 201025 [(.dat (.int .i64 0)),.nil,(.dat (.int .i64 0)),.nil] 64 (.t 22) (.t 24)⟩,⟨some 26,none,.build [.nil,(.dat (.int .i64 0)),.nil,(.dat (.int .i64 0)),.nil] [(0,1,(.t 25))]⟩,⟨some 11,none,.alloc 201011 [.nil,(.dat (.int .i64 0)),.nil,(.dat (.int .i64 0)),.nil]⟩,⟨none,none,.store 5 (.t 11) (.t 26)⟩])
 (.seq (.seq (.ops [
 ⟨some 12,none,.mv (.c (.dat (.int .i64 0)))⟩])
 (.block 0
 (.loop
 (.seq (.seq (.ops [
 ⟨some 27,none,.mv (.t 12)⟩,⟨some 28,none,.mv (.t 2)⟩,⟨some 29,none,.bin .lss (.t 27) (.t 28)⟩])
 (.cond (.t 29)
 .skip
 (.exit 0)))
 (.seq (.block 1
 (.seq (.opsD [
 ⟨some 33,none,.fad 0 (.t 4)⟩,⟨some 34,none,.load 1 false (.t 33)⟩,⟨some 35,none,.mv (.t 12)⟩,⟨some 36,none,.iad 4 (.t 34) (.t 35)⟩,⟨some 37,none,.load 4 true (.t 36)⟩,⟨some 38,none,.load 4 true (.t 10)⟩,⟨some 39,none,.fad 0 (.t 5)⟩,⟨some 40,none,.load 1 false (.t 39)⟩,⟨some 41,none,.mv (.t 12)⟩,⟨some 42,none,.iad 4 (.t 40) (.t 41)⟩,⟨some 43,none,.load 4 true (.t 42)⟩,⟨some 44,none,.call id_ref06_less [(.t 37),(.t 38),(.t 43)]⟩,⟨some 32,none,.mv (.t 44)⟩,⟨some 45,none,.ext 0 (.t 32)⟩,⟨some 46,none,.ext 1 (.t 32)⟩,⟨some 13,none,.alloc 201013 [(.dat (.int .i64 0)),.nil,(.dat (.int .i64 0)),.nil]⟩,⟨none,none,.store 4 (.t 13) (.t 45)⟩,⟨some 14,none,.mv (.t 46)⟩] [[],[],[],[],[],[],[],[],[],[],[],[],[],[],[],[1,4,5,7,10],[],[]])
 (.seq (.seq (.ops [
 ⟨some 47,none,.mv (.t 14)⟩,⟨some 48,none,.bin .neq (.t 47) (.c (.dat (.int .i64 0)))⟩])
 (.cond (.t 48)
 (.seq (.ops [
 ⟨some 49,none,.load 5 true (.t 11)⟩,⟨none,none,.store 5 (.t 8) (.t 49)⟩,⟨some 9,none,.mv (.c (.dat (.bool false)))⟩])
 .ret)
 .skip))
 (.ops [
 ⟨some 50,none,.fad 0 (.t 11)⟩,⟨some 51,none,.load 1 false (.t 50)⟩,⟨some 52,none,.mv (.t 12)⟩,⟨some 53,none,.load 4 true (.t 13)⟩,⟨some 54,none,.iad 4 (.t 51) (.t 52)⟩,⟨none,none,.store 4 (.t 54) (.t 53)⟩]))))
 (.ops [
 ⟨some 30,none,.mv (.t 12)⟩,⟨some 31,none,.bin .add (.t 30) (.c (.dat (.int .i64 1)))⟩,⟨some 12,none,.mv (.t 31)⟩]))))))
 (.seq (.ops [
 ⟨some 56,none,.fad 1 (.t 4)⟩,⟨some 57,none,.load 4 true (.t 56)⟩,⟨some 58,none,.load 4 true (.t 10)⟩,⟨some 59,none,.fad 1 (.t 5)⟩,⟨some 60,none,.load 4 true (.t 59)⟩,⟨some 61,none,.call id_ref06_less [(.t 57),(.t 58),(.t 60)]⟩,⟨some 55,none,.mv (.t 61)⟩,⟨some 62,none,.ext 0 (.t 55)⟩,⟨some 63,none,.ext 1 (.t 55)⟩,⟨some 15,none,.alloc 201015 [(.dat (.int .i64 0)),.nil,(.dat (.int .i64 0)),.nil]⟩,⟨none,none,.store 4 (.t 15) (.t 62)⟩,⟨some 16,none,.mv (.t 63)⟩])
 (.seq (.ops [
 ⟨some 64,none,.load 4 true (.t 15)⟩,⟨some 65,none,.fad 1 (.t 11)⟩,⟨none,none,.store 4 (.t 65) (.t 64)⟩])
 (.seq (.ops [
 ⟨some 66,none,.load 5 true (.t 11)⟩,⟨some 67,none,.mv (.t 16)⟩,⟨some 68,none,.bin .eql (.t 67) (.c (.dat (.int .i64 0)))⟩,⟨none,none,.store 5 (.t 8) (.t 66)⟩,⟨some 9,none,.mv (.t 68)⟩])
 .ret))))))) }
def mf_ref06_less:MFunc :=
 { n:=30,np:=3,res:=[.cell 6 4 true,.t 7],body :=
 (.seq (.ops [
 ⟨some 3,none,.box 208003 (.t 0)⟩,⟨some 4,none,.box 208004 (.t 1)⟩,⟨some 5,none,.box 208005 (.t 2)⟩,⟨some 6,none,.alloc 208006 [(.dat (.int .i64 0)),.nil,(.dat (.int .i64 0)),.nil]⟩,⟨some 7,none,.mv (.c (.dat (.int .i64 0)))⟩])
 (.seq (.ops [
 ⟨some 13,none,.load 4 true (.t 4)⟩,⟨some 14,none,.load 4 true (.t 5)⟩,⟨some 15,none,.call id_ref05_Mul [(.t 13),(.t 14)]⟩,⟨some 12,none,.mv (.t 15)⟩,⟨some 16,none,.ext 0 (.t 12)⟩,⟨some 17,none,.ext 1 (.t 12)⟩,⟨some 8,none,.alloc 208008 [(.dat (.int .i64 0)),.nil,(.dat (.int .i64 0)),.nil]⟩,⟨none,none,.store 4 (.t 8) (.t 16)⟩,⟨some 9,none,.mv (.t 17)⟩])
 (.seq (.seq (.ops [
 ⟨some 18,none,.mv (.t 9)⟩,⟨some 19,none,.bin .neq (.t 18) (.c (.dat (.int .i64 0)))⟩])
 (.cond (.t 19)
 (.seq (.ops [
 ⟨some 20,none,.build [(.dat (.int .i64 0)),.nil,(.dat (.int .i64 0)),.nil] []⟩,⟨some 21,none,.mv (.t 9)⟩,⟨none,none,.store 4 (.t 6) (.t 20)⟩,⟨some 7,none,.mv (.t 21)⟩])
 .ret)
 .skip))
 (.seq (.ops [
 ⟨some 23,none,.load 4 true (.t 3)⟩,⟨some 24,none,.load 4 true (.t 8)⟩,⟨some 25,none,.call id_ref05_Sub [(.t 23),(.t 24)]⟩,⟨some 22,none,.mv (.t 25)⟩,⟨some 26,none,.ext 0 (.t 22)⟩,⟨some 27,none,.ext 1 (.t 22)⟩,⟨some 10,none,.alloc 208010 [(.dat (.int .i64 0)),.nil,(.dat (.int .i64 0)),.nil]⟩,⟨none,none,.store 4 (.t 10) (.t 26)⟩,⟨some 11,none,.mv (.t 27)⟩])
 (.seq (.ops [
 ⟨some 28,none,.load 4 true (.t 10)⟩,⟨some 29,none,.mv (.t 11)⟩,⟨none,none,.store 4 (.t 6) (.t 28)⟩,⟨some 7,none,.mv (.t 29)⟩])
 .ret))))) }
end Go.Mini
namespace Go.Mini
open Go
set_option maxRecDepth 10000
set_option maxHeartbeats 4000000
noncomputable def F_hZero:List Data→Option PRes:=FF (α:=Int × (List Int) × Int × (List Int)) (fun (s,l,s2,l2)=>([.agg [.int .i64 s,.sl (l.map i64L),.int .i64 s2,.sl (l2.map i64L)]]:List Data)) (fun (s,l,s2,l2)=>some (.same (.bool (s==0))))
theorem F_hZero_inj:∀ a b:Int × (List Int) × Int × (List Int),(fun (s,l,s2,l2)=>([.agg [.int .i64 s,.sl (l.map i64L),.int .i64 s2,.sl (l2.map i64L)]]:List Data)) a=(fun (s,l,s2,l2)=>([.agg [.int .i64 s,.sl (l.map i64L),.int .i64 s2,.sl (l2.map i64L)]]:List Data)) b→a=b:=by
  rintro⟨s1,l1,s21,l21⟩ ⟨s2,l2,s22,l22⟩ h
  simp only[yM,Data.agg.injEq,Data.int.injEq,Data.sl.injEq] at h;exact Prod.ext h.1.1.2 (Prod.ext (map_inj i64L_inj _ _ h.1.2.1) (Prod.ext h.1.2.2.1.2 (map_inj i64L_inj _ _ h.1.2.2.2.1)))
@[go_sem] theorem F_hZero_eq (s:Int) (l:List Int) (s2:Int) (l2:List Int):F_hZero [.agg [.int .i64 s,.sl (l.map i64L),.int .i64 s2,.sl (l2.map i64L)]]=some (.same (.bool (s==0))):=FF_eq F_hZero_inj (s,l,s2,l2)
theorem w_hZero (T:Tab)  (s:Int) (l:List Int) (s2:Int) (l2:List Int) :
  wp T mf_ref06_Zero.body (endS mf_ref06_Zero.res (.same (.bool (s==0)))) ⟨initTm [.dat (.agg [.int .i64 s,.sl (l.map i64L),.int .i64 s2,.sl (l2.map i64L)])],emp⟩:=by
 refine wp_start ?_
 simp only[mf_ref06_Zero]
 simp only[go_sem,reduceIte,yA,yB,yC,yD,yE,yH,reduceCtorEq,yF,yG,yI,yJ]
 repeat' (first|refine qqA ?_ ?_|refine qqB ?_ ?_|refine qqC ?_ ?_|refine qqD ?_ ?_|refine qqE ?_ ?_|refine qqF ?_ ?_)<;>intro h<;>simp only[h,go_sem,reduceIte,yA,yB,yC,yD,yE,yH,reduceCtorEq,yF,yG,yI,yJ]
def fewFs (l:List FRaw) (n d:Int):Bool:=decide ((l.length:Int)≤n)&&l.all fun f=>fewF f d
theorem all_take {α:Type} {p:α→Bool} {l:List α} {i:Nat} {x:α} (hx:l[i]?=some x):(l.take (i+1)).all p=((l.take i).all p&&p x):=by
 rw[List.take_add_one,hx,List.all_append]
 simp
theorem all_bad {α:Type} {p:α→Bool} {l:List α} {i:Nat} {x:α} (hx:l[i]?=some x) (h:p x=false):l.all p=false:=by
 rw[List.all_eq_false]
 exact⟨x,List.mem_of_getElem? hx,by simp [h]⟩
noncomputable def F_hFewFracs:List Data→Option PRes:=FF (α:=(List FRaw) × Int × Int) (fun (l,n,d)=>([.sl (l.map fracL),.int .i64 n,.int .i64 d]:List Data)) (fun (l,n,d)=>onlyIf (n≤1000000) (.same (.bool (fewFs l n d))))
theorem F_hFewFracs_inj:∀ a b:(List FRaw) × Int × Int,(fun (l,n,d)=>([.sl (l.map fracL),.int .i64 n,.int .i64 d]:List Data)) a=(fun (l,n,d)=>([.sl (l.map fracL),.int .i64 n,.int .i64 d]:List Data)) b→a=b:=by
  rintro⟨l1,n1,d1⟩ ⟨l2,n2,d2⟩ h
  simp only[yM,Data.int.injEq,Data.sl.injEq] at h;exact Prod.ext (map_inj fracL_inj _ _ h.1) (Prod.ext h.2.1.2 h.2.2.1.2)
@[go_sem] theorem F_hFewFracs_eq (l:List FRaw) (n:Int) (d:Int) (hc:n≤1000000):F_hFewFracs [.sl (l.map fracL),.int .i64 n,.int .i64 d]=some (.same (.bool (fewFs l n d))):=(FF_eq F_hFewFracs_inj (l,n,d)).trans (onlyIf_pos hc _)
theorem w_hFewFracs (T:Tab) (h_gFew:T id_ref05_Few=mkE F_gFew) (l:List FRaw) (n:Int) (d:Int) (hc:n≤1000000) :
  wp T mf_ref06_FewFracs.body (endS mf_ref06_FewFracs.res (.same (.bool (fewFs l n d)))) ⟨initTm [.dat (.sl (l.map fracL)),.dat (.int .i64 n),.dat (.int .i64 d)],emp⟩:=by
 refine wp_start ?_
 simp only[mf_ref06_FewFracs]
 simp only[go_sem,reduceIte,yA,yB,yC,yD,yE,yH,reduceCtorEq,yF,yG,yI,h_gFew,yJ]
 refine wp_loop_keep [0,1,2] [] (fun (i:Nat) tm mem=>i≤l.length∧(l.take i).all (fun f=>fewF f d)=true∧tm 7 = .dat (.int .i64 i)) (fun i=>l.length-i) 0 (by refine⟨by omega,by simp,rfl⟩) ?_
 intro vs ms hvs hms
 simp only[go_sem,reduceIte,yA,yB,yC,yD,yE,yH,reduceCtorEq,yF,yG,yI,h_gFew,yJ] at hvs hms
 subst hvs hms
 rintro i tm mem hk hm ⟨hi,hf,h7⟩
 simp only[go_sem,reduceIte,yA,yB,yC,yD,yE,yH,reduceCtorEq,yF,yG,yI,h_gFew,yM] at hk
 obtain⟨h0,h1,h2⟩:=hk
 by_cases hgo:i<l.length∧(i:Int)≤n
 ·obtain⟨hlt,hin⟩:=hgo
  obtain⟨⟨⟨a,b⟩,⟨c,e⟩⟩,hx⟩:∃ f,l[i]?=some f:=⟨_,yL hlt⟩
  have d1:decide ((i:Int)<(l.length:Int))=true:=decide_eq_true (by omega)
  have d2:decide ((i:Int)≤n)=true:=decide_eq_true hin
  have w3:IntKind.i64.wrap ((i:Int)+1)=((i+1:Nat):Int):=by rw[wrap64 _ (by omega) (by omega)];omega
  rcases hfew:fewF ((a,b),(c,e)) d
  ·have hr:fewFs l n d=false:=by unfold fewFs;rw[all_bad hx hfew,Bool.and_false]
   rw[hr]
   simp only[go_sem,reduceIte,yA,yB,yC,yD,yE,yH,reduceCtorEq,yF,yG,yI,h_gFew,h0,h1,h2,h7,hx,d1,d2,w3,hfew,fracL,yJ,yK]
   repeat' (first|refine qqA ?_ ?_|refine qqB ?_ ?_|refine qqC ?_ ?_|refine qqD ?_ ?_|refine qqE ?_ ?_|refine qqF ?_ ?_)<;>intro h<;>simp only[h,go_sem,reduceIte,yA,yB,yC,yD,yE,yH,reduceCtorEq,yF,yG,yI,h_gFew,h0,h1,h2,h7,hx,d1,d2,w3,hfew,fracL,yJ,yK]
  ·simp only[go_sem,reduceIte,yA,yB,yC,yD,yE,yH,reduceCtorEq,yF,yG,yI,h_gFew,h0,h1,h2,h7,hx,d1,d2,w3,hfew,fracL,yJ,yK]
   repeat' (first|refine qqA ?_ ?_|refine qqB ?_ ?_|refine qqC ?_ ?_|refine qqD ?_ ?_|refine qqE ?_ ?_|refine qqF ?_ ?_)<;>intro h<;>simp only[h,go_sem,reduceIte,yA,yB,yC,yD,yE,yH,reduceCtorEq,yF,yG,yI,h_gFew,h0,h1,h2,h7,hx,d1,d2,w3,hfew,fracL,yJ,yK]
   exact⟨i+1,by omega,by omega,by rw[all_take hx,hf,hfew];rfl,rfl⟩
 ·have hr:fewFs l n d=decide ((l.length:Int)≤n):=by
   unfold fewFs
   by_cases hln:(l.length:Int)≤n
   ·have:i=l.length:=by omega
    rw[this,List.take_length] at hf
    rw[hf,Bool.and_true]
   ·rw[decide_eq_false hln,Bool.false_and]
  rw[hr]
  rcases d1:decide ((i:Int)<(l.length:Int))
  ·simp only[go_sem,reduceIte,yA,yB,yC,yD,yE,yH,reduceCtorEq,yF,yG,yI,h_gFew,h0,h1,h2,h7,d1,yJ]
   repeat' (first|refine qqA ?_ ?_|refine qqB ?_ ?_|refine qqC ?_ ?_|refine qqD ?_ ?_|refine qqE ?_ ?_|refine qqF ?_ ?_)<;>intro h<;>simp only[h,go_sem,reduceIte,yA,yB,yC,yD,yE,yH,reduceCtorEq,yF,yG,yI,h_gFew,h0,h1,h2,h7,d1,yJ]
  ·have d2:decide ((i:Int)≤n)=false:=decide_eq_false (by have:=of_decide_eq_true d1;omega)
   simp only[go_sem,reduceIte,yA,yB,yC,yD,yE,yH,reduceCtorEq,yF,yG,yI,h_gFew,h0,h1,h2,h7,d1,d2,yJ]
   repeat' (first|refine qqA ?_ ?_|refine qqB ?_ ?_|refine qqC ?_ ?_|refine qqD ?_ ?_|refine qqE ?_ ?_|refine qqF ?_ ?_)<;>intro h<;>simp only[h,go_sem,reduceIte,yA,yB,yC,yD,yE,yH,reduceCtorEq,yF,yG,yI,h_gFew,h0,h1,h2,h7,d1,d2,yJ]
def fewRow (r:RowD) (n d:Int):Bool:=fewFs r.1 n d&&fewF r.2 d
def fewRows (l:List RowD) (n d:Int):Bool:=decide ((l.length:Int)≤n)&&l.all fun r=>fewRow r n d
noncomputable def F_hFew:List Data→Option PRes:=FF (α:=(List RowD) × Int × Int) (fun (l,n,d)=>([.sl (l.map rowL),.int .i64 n,.int .i64 d]:List Data)) (fun (l,n,d)=>onlyIf (n≤1000000) (.same (.bool (fewRows l n d))))
theorem F_hFew_inj:∀ a b:(List RowD) × Int × Int,(fun (l,n,d)=>([.sl (l.map rowL),.int .i64 n,.int .i64 d]:List Data)) a=(fun (l,n,d)=>([.sl (l.map rowL),.int .i64 n,.int .i64 d]:List Data)) b→a=b:=by
  rintro⟨l1,n1,d1⟩ ⟨l2,n2,d2⟩ h
  simp only[yM,Data.int.injEq,Data.sl.injEq] at h;exact Prod.ext (map_inj rowL_inj _ _ h.1) (Prod.ext h.2.1.2 h.2.2.1.2)
@[go_sem] theorem F_hFew_eq (l:List RowD) (n:Int) (d:Int) (hc:n≤1000000):F_hFew [.sl (l.map rowL),.int .i64 n,.int .i64 d]=some (.same (.bool (fewRows l n d))):=(FF_eq F_hFew_inj (l,n,d)).trans (onlyIf_pos hc _)
theorem w_hFew (T:Tab) (h_hFewFracs:T id_ref06_FewFracs=mkE F_hFewFracs) (h_gFew:T id_ref05_Few=mkE F_gFew) (l:List RowD) (n:Int) (d:Int) (hc:n≤1000000) :
  wp T mf_ref06_Few.body (endS mf_ref06_Few.res (.same (.bool (fewRows l n d)))) ⟨initTm [.dat (.sl (l.map rowL)),.dat (.int .i64 n),.dat (.int .i64 d)],emp⟩:=by
 refine wp_start ?_
 simp only[mf_ref06_Few]
 simp only[go_sem,reduceIte,yA,yB,yC,yD,yE,yH,reduceCtorEq,yF,yG,yI,h_hFewFracs,h_gFew,yJ]
 refine wp_loop_keep [0,1,2] [] (fun (i:Nat) tm mem=>i≤l.length∧(l.take i).all (fun r=>fewRow r n d)=true∧tm 7 = .dat (.int .i64 i)) (fun i=>l.length-i) 0 (by refine⟨by omega,by simp,rfl⟩) ?_
 intro vs ms hvs hms
 simp only[go_sem,reduceIte,yA,yB,yC,yD,yE,yH,reduceCtorEq,yF,yG,yI,h_hFewFracs,h_gFew,yJ] at hvs hms
 subst hvs hms
 rintro i tm mem hk hm ⟨hi,hf,h7⟩
 simp only[go_sem,reduceIte,yA,yB,yC,yD,yE,yH,reduceCtorEq,yF,yG,yI,h_hFewFracs,h_gFew,yM] at hk
 obtain⟨h0,h1,h2⟩:=hk
 by_cases hgo:i<l.length∧(i:Int)≤n
 ·obtain⟨hlt,hin⟩:=hgo
  obtain⟨⟨A,⟨a,b⟩,⟨c,e⟩⟩,hx⟩:∃ f,l[i]?=some f:=⟨_,yL hlt⟩
  have d1:decide ((i:Int)<(l.length:Int))=true:=decide_eq_true (by omega)
  have d2:decide ((i:Int)≤n)=true:=decide_eq_true hin
  have w3:IntKind.i64.wrap ((i:Int)+1)=((i+1:Nat):Int):=by rw[wrap64 _ (by omega) (by omega)];omega
  have hbad:fewRow (A,((a,b),(c,e))) n d=false→fewRows l n d=false:=fun h=>by unfold fewRows;rw[all_bad hx h,Bool.and_false]
  have hok:fewRow (A,((a,b),(c,e))) n d=true→(l.take (i+1)).all (fun r=>fewRow r n d)=true:=fun h=>by rw[all_take hx,hf,h];rfl
  unfold fewRow at hbad hok
  dsimp only at hbad hok
  rcases hfs:fewFs A n d
  ·rw[hbad (by rw[hfs];rfl)]
   simp only[go_sem,reduceIte,yA,yB,yC,yD,yE,yH,reduceCtorEq,yF,yG,yI,h_hFewFracs,h_gFew,h0,h1,h2,h7,hx,hc,d1,d2,w3,hfs,rowL,fracL,yJ,yK]
   repeat' (first|refine qqA ?_ ?_|refine qqB ?_ ?_|refine qqC ?_ ?_|refine qqD ?_ ?_|refine qqE ?_ ?_|refine qqF ?_ ?_)<;>intro h<;>simp only[h,go_sem,reduceIte,yA,yB,yC,yD,yE,yH,reduceCtorEq,yF,yG,yI,h_hFewFracs,h_gFew,h0,h1,h2,h7,hx,hc,d1,d2,w3,hfs,rowL,fracL,yJ,yK]
  ·rcases hfew:fewF ((a,b),(c,e)) d
   ·rw[hbad (by rw[hfew,Bool.and_false])]
    simp only[go_sem,reduceIte,yA,yB,yC,yD,yE,yH,reduceCtorEq,yF,yG,yI,h_hFewFracs,h_gFew,h0,h1,h2,h7,hx,hc,d1,d2,w3,hfs,hfew,rowL,fracL,yJ,yK]
    repeat' (first|refine qqA ?_ ?_|refine qqB ?_ ?_|refine qqC ?_ ?_|refine qqD ?_ ?_|refine qqE ?_ ?_|refine qqF ?_ ?_)<;>intro h<;>simp only[h,go_sem,reduceIte,yA,yB,yC,yD,yE,yH,reduceCtorEq,yF,yG,yI,h_hFewFracs,h_gFew,h0,h1,h2,h7,hx,hc,d1,d2,w3,hfs,hfew,rowL,fracL,yJ,yK]
   ·simp only[go_sem,reduceIte,yA,yB,yC,yD,yE,yH,reduceCtorEq,yF,yG,yI,h_hFewFracs,h_gFew,h0,h1,h2,h7,hx,hc,d1,d2,w3,hfs,hfew,rowL,fracL,yJ,yK]
    repeat' (first|refine qqA ?_ ?_|refine qqB ?_ ?_|refine qqC ?_ ?_|refine qqD ?_ ?_|refine qqE ?_ ?_|refine qqF ?_ ?_)<;>intro h<;>simp only[h,go_sem,reduceIte,yA,yB,yC,yD,yE,yH,reduceCtorEq,yF,yG,yI,h_hFewFracs,h_gFew,h0,h1,h2,h7,hx,hc,d1,d2,w3,hfs,hfew,rowL,fracL,yJ,yK]
    exact⟨i+1,by omega,by omega,hok (by rw[hfs,hfew];rfl),rfl⟩
 ·have hr:fewRows l n d=decide ((l.length:Int)≤n):=by
   unfold fewRows
   by_cases hln:(l.length:Int)≤n
   ·have:i=l.length:=by omega
    rw[this,List.take_length] at hf
    rw[hf,Bool.and_true]
   ·rw[decide_eq_false hln,Bool.false_and]
  rw[hr]
  rcases d1:decide ((i:Int)<(l.length:Int))
  ·simp only[go_sem,reduceIte,yA,yB,yC,yD,yE,yH,reduceCtorEq,yF,yG,yI,h_hFewFracs,h_gFew,h0,h1,h2,h7,d1,yJ]
   repeat' (first|refine qqA ?_ ?_|refine qqB ?_ ?_|refine qqC ?_ ?_|refine qqD ?_ ?_|refine qqE ?_ ?_|refine qqF ?_ ?_)<;>intro h<;>simp only[h,go_sem,reduceIte,yA,yB,yC,yD,yE,yH,reduceCtorEq,yF,yG,yI,h_hFewFracs,h_gFew,h0,h1,h2,h7,d1,yJ]
  ·have d2:decide ((i:Int)≤n)=false:=decide_eq_false (by have:=of_decide_eq_true d1;omega)
   simp only[go_sem,reduceIte,yA,yB,yC,yD,yE,yH,reduceCtorEq,yF,yG,yI,h_hFewFracs,h_gFew,h0,h1,h2,h7,d1,d2,yJ]
   repeat' (first|refine qqA ?_ ?_|refine qqB ?_ ?_|refine qqC ?_ ?_|refine qqD ?_ ?_|refine qqE ?_ ?_|refine qqF ?_ ?_)<;>intro h<;>simp only[h,go_sem,reduceIte,yA,yB,yC,yD,yE,yH,reduceCtorEq,yF,yG,yI,h_hFewFracs,h_gFew,h0,h1,h2,h7,d1,d2,yJ]
def sameFs (a b:List FRaw):Bool:=decide (a=b)
noncomputable def F_hSame:List Data→Option PRes:=FF (α:=(List FRaw) × (List FRaw)) (fun (l,l2)=>([.sl (l.map fracL),.sl (l2.map fracL)]:List Data)) (fun (l,l2)=>onlyIf (okL l∧okL l2) (.same (.bool (sameFs l l2))))
theorem F_hSame_inj:∀ a b:(List FRaw) × (List FRaw),(fun (l,l2)=>([.sl (l.map fracL),.sl (l2.map fracL)]:List Data)) a=(fun (l,l2)=>([.sl (l.map fracL),.sl (l2.map fracL)]:List Data)) b→a=b:=by
  rintro⟨l1,l21⟩ ⟨l2,l22⟩ h
  simp only[yM,Data.int.injEq,Data.sl.injEq] at h;exact Prod.ext (map_inj fracL_inj _ _ h.1) (map_inj fracL_inj _ _ h.2.1)
@[go_sem] theorem F_hSame_eq (l:List FRaw) (l2:List FRaw) (hc:okL l∧okL l2):F_hSame [.sl (l.map fracL),.sl (l2.map fracL)]=some (.same (.bool (sameFs l l2))):=(FF_eq F_hSame_inj (l,l2)).trans (onlyIf_pos hc _)
theorem w_hSame (T:Tab) (h_gSame:T id_ref05_Same=mkE F_gSame) (l:List FRaw) (l2:List FRaw) (hc:okL l∧okL l2) :
  wp T mf_ref06_Same.body (endS mf_ref06_Same.res (.same (.bool (sameFs l l2)))) ⟨initTm [.dat (.sl (l.map fracL)),.dat (.sl (l2.map fracL))],emp⟩:=by
 refine wp_start ?_
 simp only[mf_ref06_Same]
 obtain⟨⟨hl1,ho1⟩,hl2,ho2⟩:=hc
 by_cases hl:l.length=l2.length
 ·have e1:(((l.length:Nat):Int)==((l2.length:Nat):Int))=true:=by simp;omega
  simp only[go_sem,reduceIte,yA,yB,yC,yD,yE,yH,reduceCtorEq,yF,yG,yI,h_gSame,yJ,e1,Bool.not_true,bne]
  refine wp_loop_keep [0,1] [] (fun (i:Nat) tm mem=>i≤l.length∧l.take i=l2.take i∧tm 5 = .dat (.int .i64 i)) (fun i=>l.length-i) 0 (by refine⟨by omega,by simp,rfl⟩) ?_
  intro vs ms hvs hms
  simp only[go_sem,reduceIte,yA,yB,yC,yD,yE,yH,reduceCtorEq,yF,yG,yI,h_gSame,yJ] at hvs hms
  subst hvs hms
  rintro i tm mem hk hm ⟨hi,hf,h5⟩
  simp only[go_sem,reduceIte,yA,yB,yC,yD,yE,yH,reduceCtorEq,yF,yG,yI,h_gSame,yM] at hk
  obtain⟨h0,h1⟩:=hk
  rcases Decidable.em (i<l.length) with hlt | hge
  ·obtain⟨⟨⟨a,b⟩,⟨c,e⟩⟩,hx⟩:∃ f,l[i]?=some f:=⟨_,yL hlt⟩
   obtain⟨⟨⟨a',b'⟩,⟨c',e'⟩⟩,hy⟩:∃ f,l2[i]?=some f:=⟨_,yL (by omega)⟩
   obtain⟨o1,o2⟩:=ho1 _ (List.mem_of_getElem? hx)
   obtain⟨o3,o4⟩:=ho2 _ (List.mem_of_getElem? hy)
   dsimp only at o1 o2 o3 o4
   have d1:decide ((i:Int)<(l.length:Int))=true:=decide_eq_true (by omega)
   have w3:IntKind.i64.wrap ((i:Int)+1)=((i+1:Nat):Int):=by rw[wrap64 _ (by omega) (by omega)];omega
   rcases hs:sameF ((a,b),(c,e)) ((a',b'),(c',e'))
   ·have hr:sameFs l l2=false:=by
     refine decide_eq_false fun h=>of_decide_eq_false hs ?_
     rw[h,hy] at hx
     exact (Option.some.inj hx).symm
    rw[hr]
    simp only[go_sem,reduceIte,yA,yB,yC,yD,yE,yH,reduceCtorEq,yF,yG,yI,h_gSame,h0,h1,h5,hx,hy,d1,w3,o1,o2,o3,o4,hs,fracL,yJ,yK]
    repeat' (first|refine qqA ?_ ?_|refine qqB ?_ ?_|refine qqC ?_ ?_|refine qqD ?_ ?_|refine qqE ?_ ?_|refine qqF ?_ ?_)<;>intro h<;>simp only[h,go_sem,reduceIte,yA,yB,yC,yD,yE,yH,reduceCtorEq,yF,yG,yI,h_gSame,h0,h1,h5,hx,hy,d1,w3,o1,o2,o3,o4,hs,fracL,yJ,yK]
   ·simp only[go_sem,reduceIte,yA,yB,yC,yD,yE,yH,reduceCtorEq,yF,yG,yI,h_gSame,h0,h1,h5,hx,hy,d1,w3,o1,o2,o3,o4,hs,fracL,yJ,yK]
    repeat' (first|refine qqA ?_ ?_|refine qqB ?_ ?_|refine qqC ?_ ?_|refine qqD ?_ ?_|refine qqE ?_ ?_|refine qqF ?_ ?_)<;>intro h<;>simp only[h,go_sem,reduceIte,yA,yB,yC,yD,yE,yH,reduceCtorEq,yF,yG,yI,h_gSame,h0,h1,h5,hx,hy,d1,w3,o1,o2,o3,o4,hs,fracL,yJ,yK]
    exact⟨i+1,by omega,by omega,by rw[List.take_add_one,List.take_add_one,hx,hy,hf,of_decide_eq_true hs],rfl⟩
  ·have d1:decide ((i:Int)<(l.length:Int))=false:=decide_eq_false (by omega)
   have hr:sameFs l l2=true:=by
    refine decide_eq_true ?_
    rw[List.take_of_length_le (by omega),List.take_of_length_le (by omega)] at hf
    exact hf
   rw[hr]
   simp only[go_sem,reduceIte,yA,yB,yC,yD,yE,yH,reduceCtorEq,yF,yG,yI,h_gSame,h0,h1,h5,d1,yJ]
   repeat' (first|refine qqA ?_ ?_|refine qqB ?_ ?_|refine qqC ?_ ?_|refine qqD ?_ ?_|refine qqE ?_ ?_|refine qqF ?_ ?_)<;>intro h<;>simp only[h,go_sem,reduceIte,yA,yB,yC,yD,yE,yH,reduceCtorEq,yF,yG,yI,h_gSame,h0,h1,h5,d1,yJ]
 ·have e1:(((l.length:Nat):Int)==((l2.length:Nat):Int))=false:=by simp;omega
  have hr:sameFs l l2=false:=decide_eq_false fun h=>hl (by rw[h])
  rw[hr]
  simp only[go_sem,reduceIte,yA,yB,yC,yD,yE,yH,reduceCtorEq,yF,yG,yI,h_gSame,yJ,e1,Bool.not_false,bne]
  repeat' (first|refine qqA ?_ ?_|refine qqB ?_ ?_|refine qqC ?_ ?_|refine qqD ?_ ?_|refine qqE ?_ ?_|refine qqF ?_ ?_)<;>intro h<;>simp only[h,go_sem,reduceIte,yA,yB,yC,yD,yE,yH,reduceCtorEq,yF,yG,yI,h_gSame,yJ,e1,Bool.not_false,bne]
end Go.Mini
namespace Go.Mini
open Go
variable {P:Program} {A:Nat→Prop} {w w':World} {B B':Lay} {mem mem':Mem}
structure ESpec (P:Program) (f:FuncId) (E:List MV→Mem→Option Eff):Prop where
 real:Real P f
 run:∀ args mem eff,E args mem=some eff→∀ A w B vs,MemRel A w B mem→RL w (OA A B) B args vs→EffOK P f vs A w B mem eff
/-- The end of a function that is spoken of by a relation. -/
def endQ (res:List MRes) (R:MV→Mem→Prop):MExit→St→Prop
 | .exit _,_=>False
 | .normal,st=>∃ m,resAll st res=some m∧R m st.mem
 | .ret,st=>∃ m,resAll st res=some m∧R m st.mem
@[go_sem] theorem endQ_exit {res:List MRes} {st:St} (R:MV→Mem→Prop) (id:Nat):endQ res R (.exit id) st=False:=_root_.id rfl
@[go_sem] theorem endQ_normal {res:List MRes} {st:St} (R:MV→Mem→Prop):endQ res R .normal st=∃ m,resAll st res=some m∧R m st.mem:=_root_.id rfl
@[go_sem] theorem endQ_ret {res:List MRes} {st:St} (R:MV→Mem→Prop):endQ res R .ret st=∃ m,resAll st res=some m∧R m st.mem:=_root_.id rfl
theorem endQ_done {mf:MFunc} {R:MV→Mem→Prop} {e:MExit} {st:St} (h:endQ mf.res R e st):doneM mf R e st:=by
 cases e with
 | exit id=>exact h
 | normal=>exact h
 | ret=>exact h
theorem real_of {kb : Nat} {own : List Nat} {f : FuncId} {fn : Func} {mf : MFunc} (hf : P.funcs[f]? = some fn) (hname : (fn.name == "runtime.NumGoroutine") = false) (htr : trFunc P kb own fn = some mf) : Real P f := by
 cases hb:fn.body with
 | none=>simp [trFunc,hb] at htr
 | some c=>exact⟨fn,c,hf,hb,hname⟩
/-- Functions of which a relation is known. -/
def mkQ (Q:List MV→Mem→Option (MV→Mem→Prop)) (args:List MV) (mem:Mem):Option Eff:=(Q args mem).map .rel
@[go_sem] theorem mkQ_at (Q:List MV→Mem→Option (MV→Mem→Prop)) (args:List MV) (mem:Mem):mkQ Q args mem=(Q args mem).map .rel:=_root_.id rfl
theorem espec_rel {T : Tab} {kb : Nat} {own : List Nat} (hT : TabOK P T) (hm : P.follows .mixedOrders = true) {f : FuncId} {fn : Func} {mf : MFunc} (hf : P.funcs[f]? = some fn) (hname : (fn.name == "runtime.NumGoroutine") = false) (htr : trFunc P kb own fn = some { mf with body := erase mf.body })
  {Q:List MV→Mem→Option (MV→Mem→Prop)} (h:∀ args mem R,Q args mem=some R→args.length≤mf.n∧wp T mf.body (endQ mf.res R) ⟨initTm args,mem⟩):ESpec P f (mkQ Q):=by
 refine⟨real_of hf hname htr,fun args mem eff hE A w B vs hmr hv=>?_⟩
 unfold mkQ at hE
 rw[Option.map_eq_some_iff] at hE
 obtain⟨R,hR,rfl⟩:=hE
 obtain⟨hlen,hwp⟩:=h args mem R hR
 refine Calls.mono (func_sound (Post:=R) hT hm hf htr hlen (fun e st hk=>endQ_done hk) hwp hmr hv) fun e w' he=>?_
 obtain⟨v,m,mem',B',rfl,hs,hv',hp⟩:=he
 exact⟨v,m,mem',B',rfl,hs,hv',hp⟩
/-! ### Keys forgotten -/
/-- Nothing in it refers to a key of J. -/
inductive CleanV (J:Key→Prop):MV→Prop
 | dat {d:Data}:CleanV J (.dat d)
 | nil:CleanV J .nil
 | ref {k g sz off len:Nat} (h:¬ J k):CleanV J (.ref k g sz off len)
 | ptr {k g off:Nat} (h:¬ J k):CleanV J (.ptr k g off)
 | clo {f:FuncId} {caps:List MV} (h:∀ (i:Nat) (m:MV),caps[i]?=some m→CleanV J m):CleanV J (.clo f caps)
 | agg {cs:List MV} (h:∀ (i:Nat) (m:MV),cs[i]?=some m→CleanV J m):CleanV J (.agg cs)
 | tup {cs:List MV} (h:∀ (i:Nat) (m:MV),cs[i]?=some m→CleanV J m):CleanV J (.tup cs)
 | no:CleanV J .no
 | undef:CleanV J .undef
theorem clean_of {J:Key→Prop} {O:Nat→Prop} (hJ:∀ k,J k→B k=none) {m:MV} {v:Value} (h:VR w O B m v):CleanV J m:=by
 induction h with
 | dat h=>exact .dat
 | nil=>exact .nil
 | ref he hg hv=>exact .ref fun hj=>by rw[hJ _ hj] at he;cases he
 | ptr he hg hv=>exact .ptr fun hj=>by rw[hJ _ hj] at he;cases he
 | clo hl hd ih=>exact .clo fun i m hi=>ih i m _ hi (yL (by have hlt:=(List.getElem?_eq_some_iff.1 hi).1;omega))
 | agg hl hd ih=>exact .agg fun i m hi=>ih i m _ hi (yL (by have hlt:=(List.getElem?_eq_some_iff.1 hi).1;omega))
 | tup hl hd ih=>exact .tup fun i m hi=>ih i m _ hi (yL (by have hlt:=(List.getElem?_eq_some_iff.1 hi).1;omega))
 | no=>exact .no
 | undef=>exact .undef
open Classical in
noncomputable def dropB (J:Key→Prop) (B:Lay):Lay:=fun k=>if J k then none else B k
theorem dropB_own {J:Key→Prop} {b:Nat} (h:Own (dropB J B) b):Own B b:=by
 obtain⟨k,e,he,hb⟩:=h
 unfold dropB at he
 split at he
 ·cases he
 ·exact⟨k,e,he,hb⟩
theorem drop_vr {J:Key→Prop} {m:MV} {v:Value} (h:VR w (OA A B) B m v) (hc:CleanV J m):VR w (OA A (dropB J B)) (dropB J B) m v:=by
 have at_:∀ {k:Key} {e:Bk},¬ J k→B k=some e→dropB J B k=some e:=fun hk he=>by unfold dropB;rw[if_neg hk];exact he
 induction h with
 | dat h=>exact .dat (h.less fun b hb=>hb.imp dropB_own id)
 | nil=>exact .nil
 | ref he hg hv=>cases hc with | ref hk=>exact .ref (at_ hk he) hg hv
 | ptr he hg hv=>cases hc with | ptr hk=>exact .ptr (at_ hk he) hg hv
 | clo hl hd ih=>cases hc with | clo hc=>exact .clo hl fun i d v hi hv=>ih i d v hi hv (hc i d hi)
 | agg hl hd ih=>cases hc with | agg hc=>exact .agg hl fun i d v hi hv=>ih i d v hi hv (hc i d hi)
 | tup hl hd ih=>cases hc with | tup hc=>exact .tup hl fun i d v hi hv=>ih i d v hi hv (hc i d hi)
 | no=>exact .no
 | undef=>exact .undef
/-- A callee's own blocks are forgotten. -/
theorem StepOK.drop {J:Key→Prop} {mem'':Mem} (h0:MemRel A w B mem) (hJ:∀ k,J k→mem k=none) (h:StepOK A w B w' B' mem') (h1:∀ k,J k→mem'' k=none) (h2:∀ k,¬ J k→mem'' k=mem' k)
  (hc:∀ k g cs,mem'' k=some (g,cs)→∀ m∈cs,(∃ d,m = .dat d)∨∃ k0 g0 cs0,mem k0=some (g0,cs0)∧m∈cs0):StepOK A w B w' (dropB J B') mem'':=by
 have hB:∀ k,J k→B k=none:=fun k hk=>h0.dom k (hJ k hk)
 have at_:∀ {k:Key},¬ J k→dropB J B' k=B' k:=fun hk=>by unfold dropB;rw[if_neg hk]
 have no_:∀ {k:Key},J k→dropB J B' k=none:=fun hk=>by unfold dropB;rw[if_pos hk]
 refine⟨⟨fun k hk=>?_,fun k k' e e' b he he' hb hb'=>?_,fun b ha ho=>h.mr.sep b ha (dropB_own ho),h.mr.lt,fun k g cs hk=>?_⟩,⟨h.tr.size,fun b hb ho=>?_,fun k e he=>?_⟩,h.fr,fun b hb=>h.fresh b (dropB_own hb)⟩
 ·by_cases hj:J k
  ·exact no_ hj
  ·rw[at_ hj];exact h.mr.dom k (by rw[←h2 k hj];exact hk)
 ·by_cases hj:J k
  ·rw[no_ hj] at he;cases he
  ·by_cases hj':J k'
   ·rw[no_ hj'] at he';cases he'
   ·rw[at_ hj] at he
    rw[at_ hj'] at he'
    exact h.mr.inj k k' e e' b he he' hb hb'
 ·by_cases hj:J k
  ·rw[h1 k hj] at hk;cases hk
  ·obtain⟨e,he,hg,hn,hb⟩:=h.mr.blk k g cs (by rw[←h2 k hj];exact hk)
   refine⟨e,by rw[at_ hj];exact he,hg,hn,fun b hbb=>?_⟩
   obtain⟨vs,T,hh,hz,hle,hr⟩:=hb b hbb
   refine⟨vs,T,hh,hz,hle,fun i m hi=>?_⟩
   obtain⟨v,hv,hvr⟩:=hr i m hi
   refine⟨v,hv,drop_vr hvr ?_⟩
   rcases hc k g cs hk m (List.mem_of_getElem? hi) with ⟨d,rfl⟩ | ⟨k0,g0,cs0,hm0,hmem⟩
   ·exact .dat
   ·obtain⟨e0,he0,hg0,hn0,hb0⟩:=h0.blk k0 g0 cs0 hm0
    cases hbk:e0.blk with
    | none=>rw[hn0 hbk] at hmem;cases hmem
    | some b0 =>
     obtain⟨vs0,T0,_,_,_,hr0⟩:=hb0 b0 hbk
     obtain⟨i0,hi0⟩:=List.mem_iff_getElem?.1 hmem
     obtain⟨v0,_,hvr0⟩:=hr0 i0 m hi0
     exact clean_of hB hvr0
 ·obtain⟨h3,h4⟩:=h.tr.old b hb ho
  exact⟨h3,fun hx=>h4 (dropB_own hx)⟩
 ·have hj:¬ J k:=fun hj=>by rw[hB k hj] at he;cases he
  rw[at_ hj]
  exact h.tr.key k e he
/-- Functions that change one cell: result, key, generation, cell, what it becomes. -/
def mkU (U:List MV→Mem→Option (Data × Key × Nat × Nat × Data)) (args:List MV) (mem:Mem):Option Eff:=(U args mem).map fun x => .upd x.1 x.2.1 x.2.2.1 x.2.2.2.1 (.dat x.2.2.2.2)
@[go_sem] theorem mkU_at (U:List MV→Mem→Option (Data × Key × Nat × Nat × Data)) (args:List MV) (mem:Mem):mkU U args mem=(U args mem).map fun x => .upd x.1 x.2.1 x.2.2.1 x.2.2.2.1 (.dat x.2.2.2.2):=_root_.id rfl
theorem espec_upd {T : Tab} {kb : Nat} {own : List Nat} (hT : TabOK P T) (hm : P.follows .mixedOrders = true) {f : FuncId} {fn : Func} {mf : MFunc} (hf : P.funcs[f]? = some fn) (hname : (fn.name == "runtime.NumGoroutine") = false) (htr : trFunc P kb own fn = some { mf with body := erase mf.body })
  (J:Key→Prop) {U:List MV→Mem→Option (Data × Key × Nat × Nat × Data)}
  (h:∀ args mem r k g i d,U args mem=some (r,k,g,i,d)→args.length≤mf.n∧(∀ j,J j→mem j=none)∧¬ J k∧(∃ cs,mem k=some (g,cs)) ∧
   wp T mf.body (endQ mf.res fun m mem'=>toD 6 emp m=some r∧∀ j,¬ J j→mem' j=updM mem k g ((cellsAt mem k).set i (.dat d)) j) ⟨initTm args,mem⟩):ESpec P f (mkU U):=by
 refine⟨real_of hf hname htr,fun args mem eff hE A w B vs hmr hv=>?_⟩
 unfold mkU at hE
 rw[Option.map_eq_some_iff] at hE
 obtain⟨⟨r,k,g,i,d⟩,hU,rfl⟩:=hE
 obtain⟨hlen,hJ,hk,⟨cs,hcs⟩,hwp⟩:=h args mem r k g i d hU
 refine Calls.mono (func_sound (Post:=fun m mem'=>toD 6 emp m=some r∧∀ j,¬ J j→mem' j=updM mem k g ((cellsAt mem k).set i (.dat d)) j) hT hm hf htr hlen (fun e st hk=>endQ_done hk) hwp hmr hv) fun e w' he=>?_
 obtain⟨v,m,mem',B',rfl,hs,hv',hd,hmem⟩:=he
 refine⟨v,dropB J B',rfl,hs.drop hmr hJ (fun j hj=>?_) (fun j hj=>(hmem j hj).symm) ?_,.dat ((plain_den 6 m v r hd hv').less fun b hb=>hb.imp dropB_own id)⟩
 ·have:j≠k:=fun e=>hk (e ▸ hj)
  simp only[updM,this,if_false]
  exact hJ j hj
 ·intro k2 g2 cs2 h2 m hm2
  by_cases hk2:k2=k
  ·subst hk2
   simp only[updM,if_true,Option.some.injEq,Prod.mk.injEq] at h2
   obtain⟨-,rfl⟩:=h2
   rcases List.mem_or_eq_of_mem_set hm2 with hx | rfl
   ·refine .inr ⟨k2,g,cs,hcs,?_⟩
    simpa [cellsAt,hcs] using hx
   ·exact .inl ⟨d,rfl⟩
  ·simp only[updM,hk2,if_false] at h2
   exact .inr ⟨k2,g2,cs2,h2,hm2⟩
/-! ### The table -/
def orE:Option Eff→Option Eff→Option Eff
 | some x,_=>some x
 | none,e=>e
@[go_sem] theorem orE_some (x:Eff) (e:Option Eff):orE (some x) e=some x:=_root_.id rfl
@[go_sem] theorem orE_none (e:Option Eff):orE none e=e:=_root_.id rfl
def mkTE (PT:FuncId→Option (List Data→Option PRes)) (ET:FuncId→Option (List MV→Mem→Option Eff)):Tab:=fun f args mem=>match ET f with
 | some E=>orE (E args mem) (mkT PT f args mem)
 | none=>mkT PT f args mem
theorem mkTE_ok {PT:FuncId→Option (List Data→Option PRes)} {ET:FuncId→Option (List MV→Mem→Option Eff)} (h:∀ f F,PT f=some F→PSpec P f F) (hr:∀ f E,ET f=some E→ESpec P f E):TabOK P (mkTE PT ET):=by
 intro f args mem eff hT
 unfold mkTE at hT
 split at hT
 ·rename_i E hE
  have hs:=hr f E hE
  cases hx:E args mem with
  | none =>
   rw[hx] at hT
   exact mkT_ok h f args mem eff hT
  | some y =>
   rw[hx] at hT
   cases hT
   exact⟨hs.real,fun A w B vs hmr hv=>hs.run args mem eff hx A w B vs hmr hv⟩
 ·exact mkT_ok h f args mem eff hT
theorem RSpec.toE {f:FuncId} {G:List MV→Mem→Option (MV × Mem)} (h:RSpec P f G):ESpec P f (mkG G):=by
 refine⟨h.real,fun args mem eff hE A w B vs hmr hv=>?_⟩
 unfold mkG at hE
 rw[Option.map_eq_some_iff] at hE
 obtain⟨x,hx,rfl⟩:=hE
 exact h.run args mem x hx A w B vs hmr hv
section
variable {PT:FuncId→Option (List Data→Option PRes)} {ET:FuncId→Option (List MV→Mem→Option Eff)} {f:FuncId}
theorem mkTE_F {F:List Data→Option PRes} (h:ET f=none) (h':PT f=some F):mkTE PT ET f=mkE F:=by
 funext args mem
 unfold mkTE
 rw[h]
 exact congrFun (congrFun (mkT_at h') args) mem
theorem mkTE_E {E:List MV→Mem→Option Eff} (h:ET f=some E) (h':PT f=none):mkTE PT ET f=E:=by
 funext args mem
 unfold mkTE mkT
 rw[h,h']
 dsimp only
 cases E args mem<;>rfl
theorem mkTE_FG {F:List Data→Option PRes} {G:List MV→Mem→Option (MV × Mem)} (h:ET f=some (mkG G)) (h':PT f=some F):mkTE PT ET f=mkFG F G:=by
 funext args mem
 unfold mkTE
 rw[h]
 unfold mkFG mkG
 rw[show mkT PT f args mem=mkE F args mem from congrFun (congrFun (mkT_at h') args) mem]
 dsimp only
 cases G args mem<;>rfl
end
def ETl (l:List (FuncId × (List MV→Mem→Option Eff))):FuncId→Option (List MV→Mem→Option Eff):=fun f=>(l.find? fun p=>p.1==f).map (·.2)
theorem ETl_ok {l:List (FuncId × (List MV→Mem→Option Eff))} (h:∀ p∈l,ESpec P p.1 p.2):∀ f G,ETl l f=some G→ESpec P f G:=by
 intro f F hf
 unfold ETl at hf
 rw[Option.map_eq_some_iff] at hf
 obtain⟨p,hp,rfl⟩:=hf
 have h1:=List.mem_of_find?_eq_some hp
 have h2:=List.find?_some hp
 have h3:p.1=f:=by simpa using h2
 exact h3 ▸ h p h1
theorem ETl_nil:∀ p∈([]:List (FuncId × (List MV→Mem→Option Eff))),ESpec P p.1 p.2:=by simp
theorem ETl_cons {f:FuncId} {F:List MV→Mem→Option Eff} {l:List (FuncId × (List MV→Mem→Option Eff))} (h:ESpec P f F) (hl:∀ p∈l,ESpec P p.1 p.2):∀ p∈(f,F)::l,ESpec P p.1 p.2:=by
 intro p hp
 rcases List.mem_cons.1 hp with rfl | hp
 ·exact h
 ·exact hl p hp
open Classical in
/-- A relation, by a reading of the arguments and the memory. -/
noncomputable def QQ {α:Type} (M:α→List MV→Mem→Prop) (R:α→Mem→MV→Mem→Prop):List MV→Mem→Option (MV→Mem→Prop):=fun args mem=>if h:∃ a,M a args mem then some (R (Classical.choose h) mem) else none
theorem QQ_eq {α:Type} {M:α→List MV→Mem→Prop} {R:α→Mem→MV→Mem→Prop} (uniq:∀ a b args mem,M a args mem→M b args mem→a=b) {a:α} {args:List MV} {mem:Mem} (h:M a args mem):QQ M R args mem=some (R a mem):=by
 have hx:∃ b,M b args mem:=⟨a,h⟩
 unfold QQ
 rw[dif_pos hx,uniq _ _ _ _ (Classical.choose_spec hx) h]
theorem QQ_inv {α:Type} {M:α→List MV→Mem→Prop} {R:α→Mem→MV→Mem→Prop} {args:List MV} {mem:Mem} {x:MV→Mem→Prop} (h:QQ M R args mem=some x):∃ a,M a args mem∧x=R a mem:=by
 unfold QQ at h
 split at h
 ·rename_i hx
  exact⟨_,Classical.choose_spec hx,(Option.some.inj h).symm⟩
 ·cases h
end Go.Mini
namespace Go.Mini
open Go
set_option maxRecDepth 10000
set_option maxHeartbeats 2000000
noncomputable def F_zero:List Data→Option PRes:=FF (α:=Int × (List Int) × Int × (List Int)) (fun (s,l,s2,l2)=>([.agg [.int .i64 s,.sl (l.map i64L),.int .i64 s2,.sl (l2.map i64L)]]:List Data)) (fun (s,l,s2,l2)=>some (.same (.bool (s==0))))
theorem F_zero_inj:∀ a b:Int × (List Int) × Int × (List Int),(fun (s,l,s2,l2)=>([.agg [.int .i64 s,.sl (l.map i64L),.int .i64 s2,.sl (l2.map i64L)]]:List Data)) a=(fun (s,l,s2,l2)=>([.agg [.int .i64 s,.sl (l.map i64L),.int .i64 s2,.sl (l2.map i64L)]]:List Data)) b→a=b:=by
  rintro⟨s1,l1,s21,l21⟩ ⟨s2,l2,s22,l22⟩ h
  simp only[yM,Data.agg.injEq,Data.int.injEq,Data.sl.injEq] at h;exact Prod.ext h.1.1.2 (Prod.ext (map_inj i64L_inj _ _ h.1.2.1) (Prod.ext h.1.2.2.1.2 (map_inj i64L_inj _ _ h.1.2.2.2.1)))
@[go_sem] theorem F_zero_eq (s:Int) (l:List Int) (s2:Int) (l2:List Int):F_zero [.agg [.int .i64 s,.sl (l.map i64L),.int .i64 s2,.sl (l2.map i64L)]]=some (.same (.bool (s==0))):=FF_eq F_zero_inj (s,l,s2,l2)
theorem w_zero (T:Tab)  (s:Int) (l:List Int) (s2:Int) (l2:List Int) :
  wp T mf_linear_zero.body (endS mf_linear_zero.res (.same (.bool (s==0)))) ⟨initTm [.dat (.agg [.int .i64 s,.sl (l.map i64L),.int .i64 s2,.sl (l2.map i64L)])],emp⟩:=by
 refine wp_start ?_
 simp only[mf_linear_zero]
 simp only[go_sem,reduceIte,yA,yB,yC,yD,yE,yH,reduceCtorEq,yF,yG,yI]
 repeat' (first|refine qqA ?_ ?_|refine qqB ?_ ?_|refine qqC ?_ ?_|refine qqD ?_ ?_|refine qqE ?_ ?_|refine qqF ?_ ?_)<;>intro h<;>simp only[h,go_sem,reduceIte,yA,yB,yC,yD,yE,yH,reduceCtorEq,yF,yG,yI]
/-- note: it notes whether something has failed. -/
def U_note (args:List MV) (mem:Mem):Option (Data × Key × Nat × Nat × Data) :=
 match args with
 | [.ptr k g 0,.dat (.agg [.int .i64 s,.sl l,.int .i64 s2,.sl l2]),.dat (.int .i64 e)]=>match mem k,mem 168004,mem 168006 with
  | some (g',[_,_,.dat (.bool c)]),none,none=>if g'=g∧k≠168004∧k≠168006 then some (.agg [.int .i64 s,.sl l,.int .i64 s2,.sl l2],k,g,2,.bool (c||e != 0)) else none
  | _,_,_=>none
 | _=>none
theorem U_note_eq {k g:Nat} {s s2 e:Int} {l l2:List (List Data)} {mem:Mem} {a b:MV} {c:Bool} (h:mem k=some (g,[a,b,.dat (.bool c)])) (h1:mem 168004=none) (h2:mem 168006=none) (h3:k≠168004) (h4:k≠168006) :
  U_note [.ptr k g 0,.dat (.agg [.int .i64 s,.sl l,.int .i64 s2,.sl l2]),.dat (.int .i64 e)] mem=some (.agg [.int .i64 s,.sl l,.int .i64 s2,.sl l2],k,g,2,.bool (c||e != 0)):=by
 unfold U_note
 simp only[h,h1,h2]
 rw[if_pos ⟨trivial,h3,h4⟩]
def noteJ (j:Key):Prop:=j=168004∨j=168006
theorem w_note (T:Tab) (args:List MV) (mem:Mem) (r:Data) (k g i:Nat) (d:Data) (h:U_note args mem=some (r,k,g,i,d)) :
  args.length≤19∧(∀ j,noteJ j→mem j=none)∧¬ noteJ k∧(∃ cs,mem k=some (g,cs)) ∧
   wp T mf_linear_matrix_note.body (endQ mf_linear_matrix_note.res fun m mem'=>toD 6 emp m=some r∧∀ j,¬ noteJ j→mem' j=updM mem k g ((cellsAt mem k).set i (.dat d)) j) ⟨initTm args,mem⟩:=by
 unfold U_note at h
 split at h
 ·rename_i k0 g0 s l s2 l2 e
  split at h
  ·rename_i g1 a b c hm h4 h6
   split at h
   ·rename_i hg
    obtain⟨rfl,n4,n6⟩:=hg
    simp only[Option.some.injEq,Prod.mk.injEq] at h
    obtain⟨rfl,rfl,rfl,rfl,rfl⟩:=h
    refine⟨by simp,?_,?_,⟨_,hm⟩,?_⟩
    ·rintro j (rfl | rfl)
     ·exact h4
     ·exact h6
    ·rintro (h | h)
     ·exact n4 h
     ·exact n6 h
    ·have hfin:∀ x:Bool,cellsAt mem k0=[a,b,.dat (.bool c)]:=fun _=>by simp only[cellsAt,hm]
     have n4':(k0=168004)=False:=eq_false n4
     have n6':(k0=168006)=False:=eq_false n6
     have n4s:(168004=k0)=False:=eq_false (Ne.symm n4)
     have n6s:(168006=k0)=False:=eq_false (Ne.symm n6)
     refine wp_start ?_
     simp only[mf_linear_matrix_note]
     cases c
     ·simp only[go_sem,reduceIte,yA,yB,yC,yD,yE,yH,reduceCtorEq,yF,yG,yI,hm,h4,h6,n4',n6',n4s,n6s]
      repeat' (first|refine qqA ?_ ?_|refine qqB ?_ ?_|refine qqC ?_ ?_|refine qqD ?_ ?_|refine qqE ?_ ?_|refine qqF ?_ ?_)<;>intro h<;>simp only[h,go_sem,reduceIte,yA,yB,yC,yD,yE,yH,reduceCtorEq,yF,yG,yI,hm,h4,h6,n4',n6',n4s,n6s]
      refine⟨_,rfl,by first | rfl | simp [go_sem,toD],fun j hj=>?_⟩
      have j4:j≠168004:=fun h=>hj (.inl h)
      have j6:j≠168006:=fun h=>hj (.inr h)
      by_cases hjk:j=k0<;>simp [updM,cellsAt,hm,j4,j6,hjk,n4,n6,bne]
     ·simp only[go_sem,reduceIte,yA,yB,yC,yD,yE,yH,reduceCtorEq,yF,yG,yI,hm,h4,h6,n4',n6',n4s,n6s]
      repeat' (first|refine qqA ?_ ?_|refine qqB ?_ ?_|refine qqC ?_ ?_|refine qqD ?_ ?_|refine qqE ?_ ?_|refine qqF ?_ ?_)<;>intro h<;>simp only[h,go_sem,reduceIte,yA,yB,yC,yD,yE,yH,reduceCtorEq,yF,yG,yI,hm,h4,h6,n4',n6',n4s,n6s]
      refine⟨_,rfl,by first | rfl | simp [go_sem,toD],fun j hj=>?_⟩
      have j4:j≠168004:=fun h=>hj (.inl h)
      have j6:j≠168006:=fun h=>hj (.inr h)
      by_cases hjk:j=k0<;>simp [updM,cellsAt,hm,j4,j6,hjk,n4,n6,bne]
   ·cases h
  ·cases h
 ·cases h
end Go.Mini
namespace Go.Mini
open Go
set_option maxRecDepth 10000
set_option maxHeartbeats 2000000
/-- A row: its number, its block's generation, what it holds. -/
abbrev MR:=Nat × Nat × List FRaw
def refsOf (N:Nat) (rows:List MR):List MV:=rows.map fun x => .ref (x.1+900000) x.2.1 4 0 (N+1)
structure MatAt (go N:Nat) (rows:List MR) (bad:Bool) (mem:Mem):Prop where
 m:mem 129015=some (0,[.ref 129035 go 1 0 N,.dat (.int .i64 N),.dat (.bool bad)])
 o:mem 129035=some (go,refsOf N rows)
 r:∀ x∈rows,mem (x.1+900000)=some (x.2.1,rowE fracL x.2.2)
structure MatOK (N:Nat) (rows:List MR):Prop where
 len:rows.length=N
 nd:(rows.map (·.1)).Nodup
 row:∀ x∈rows,x.2.2.length=N+1∧∀ f∈x.2.2,okF f
def foreign (k:Nat):Prop:=k<900000∧k≠129015∧k≠129035∧k≠148008∧k≠148010∧k≠148013
def PS (mem0:Mem) (go N:Nat) (rows:List MR) (bad:Bool) (mem:Mem):Prop:=MatAt go N rows bad mem∧∀ k,foreign k→mem k=mem0 k
section
variable {mem0 mem:Mem} {go N:Nat} {rows:List MR} {bd:Bool}
theorem PS.flag (b:Bool) (h:PS mem0 go N rows bd mem):PS mem0 go N rows b (updM mem 129015 0 [.ref 129035 go 1 0 N,.dat (.int .i64 N),.dat (.bool b)]):=by
 refine⟨⟨by simp [updM],by simp [updM,h.1.o],fun x hx=>?_⟩,fun k hk=>?_⟩
 ·rw[←h.1.r x hx]
  exact if_neg (show ¬ ((x.1+900000:Nat)=129015) by omega)
 ·rw[←h.2 k hk]
  exact if_neg hk.2.1
theorem PS.own {k g:Nat} {cs:List MV} (hk:k=148008∨k=148010∨k=148013) (h:PS mem0 go N rows bd mem):PS mem0 go N rows bd (updM mem k g cs):=by
 have hne:∀ j:Nat,j≠k→updM mem k g cs j=mem j:=fun j hj=>if_neg hj
 refine⟨⟨by rw[hne _ (by omega)];exact h.1.m,by rw[hne _ (by omega)];exact h.1.o,fun x hx=>by rw[hne _ (by omega)];exact h.1.r x hx⟩,fun j hj=>?_⟩
 have:=hj.2
 rw[hne _ (by omega)]
 exact h.2 j hj
theorem PS.set {i:Nat} {x:MR} (hok:MatOK N rows) (hi:rows[i]?=some x) (l:List FRaw) (h:PS mem0 go N rows bd mem):PS mem0 go N (rows.set i (x.1,x.2.1,l)) bd (updM mem (x.1+900000) x.2.1 (rowE fracL l)):=by
 have hne:∀ j:Nat,j≠x.1+900000→updM mem (x.1+900000) x.2.1 (rowE fracL l) j=mem j:=fun j hj=>if_neg hj
 obtain⟨hlt,hxi⟩:=List.getElem?_eq_some_iff.1 hi
 refine⟨⟨by rw[hne _ (by omega)];exact h.1.m,?_,fun y hy=>?_⟩,fun j hj=>?_⟩
 ·rw[hne _ (by omega),h.1.o]
  congr 2
  unfold refsOf
  apply List.ext_getElem?
  intro j
  rw[yK,yK,List.getElem?_set]
  by_cases hij:i=j
  ·subst hij
   rw[if_pos rfl,if_pos hlt,hi]
   rfl
  ·rw[if_neg hij]
 ·obtain⟨j,hj⟩:=List.mem_iff_getElem?.1 hy
  rw[List.getElem?_set] at hj
  by_cases hij:i=j
  ·subst hij
   rw[if_pos rfl,if_pos hlt] at hj
   cases hj
   simp [updM]
  ·rw[if_neg hij] at hj
   have hne2:y.1≠x.1:=by
    intro he
    have h1:(rows.map (·.1))[j]?=some y.1:=by rw[yK,hj];rfl
    have h2:(rows.map (·.1))[i]?=some y.1:=by rw[yK,hi,he];rfl
    have hl:i<(rows.map (·.1)).length:=by rw[yJ];exact hlt
    exact hij ((List.getElem?_inj hl hok.nd).1 (h2.trans h1.symm))
   rw[hne (y.1+900000) (by omega)]
   exact h.1.r y (List.mem_of_getElem? hj)
 ·have:=hj.1
  rw[hne j (by omega)]
  exact h.2 j hj
theorem PS.swap {i j:Nat} {a b:MR} (hi:rows[i]?=some a) (hj:rows[j]?=some b) (h:PS mem0 go N rows bd mem):PS mem0 go N ((rows.set i b).set j a) bd (updM (updM mem 129035 go (refsOf N (rows.set i b))) 129035 go (refsOf N ((rows.set i b).set j a))):=by
 have hne:∀ k:Nat,k≠129035→updM (updM mem 129035 go (refsOf N (rows.set i b))) 129035 go (refsOf N ((rows.set i b).set j a)) k=mem k:=fun k hk=>by simp [updM,hk]
 refine⟨⟨by rw[hne _ (by omega)];exact h.1.m,by simp [updM],fun x hx=>?_⟩,fun k hk=>?_⟩
 ·rw[hne _ (by omega)]
  apply h.1.r
  rcases List.mem_or_eq_of_mem_set hx with hx | rfl
  ·rcases List.mem_or_eq_of_mem_set hx with hx | rfl
   ·exact hx
   ·exact List.mem_of_getElem? hj
  ·exact List.mem_of_getElem? hi
 ·rw[hne _ hk.2.2.1]
  exact h.2 k hk
theorem MatOK.set {i:Nat} {x:MR} (hok:MatOK N rows) (hi:rows[i]?=some x) {l:List FRaw} (hl:l.length=N+1) (hf:∀ f∈l,okF f):MatOK N (rows.set i (x.1,x.2.1,l)):=by
 obtain⟨hlt,hxi⟩:=List.getElem?_eq_some_iff.1 hi
 refine⟨by rw[List.length_set];exact hok.len,?_,fun y hy=>?_⟩
 ·have:(rows.set i (x.1,x.2.1,l)).map (·.1)=rows.map (·.1):=by
   rw[List.map_set]
   apply List.ext_getElem?
   intro j
   rw[List.getElem?_set]
   by_cases hij:i=j
   ·subst hij
    rw[if_pos rfl,yJ,if_pos hlt,yK,hi];rfl
   ·rw[if_neg hij]
  rw[this]
  exact hok.nd
 ·rcases List.mem_or_eq_of_mem_set hy with hy | rfl
  ·exact hok.row y hy
  ·exact⟨hl,hf⟩
theorem nodup_swap {α:Type} {l:List α} {i j:Nat} {a b:α} (hi:l[i]?=some a) (hj:l[j]?=some b) (h:l.Nodup):((l.set i b).set j a).Nodup:=by
 obtain⟨hil,hia⟩:=List.getElem?_eq_some_iff.1 hi
 obtain⟨hjl,hjb⟩:=List.getElem?_eq_some_iff.1 hj
 have main:∀ p q,p<q→q<l.length→((l.set i b).set j a)[p]?≠((l.set i b).set j a)[q]?:=by
  intro p q hpq hq
  rw[List.getElem?_set,List.getElem?_set,List.getElem?_set,List.getElem?_set]
  have inj:∀ p q,p<l.length→l[p]?=l[q]?→p=q:=fun p q hp he=>(List.getElem?_inj hp h).1 he
  simp only[List.length_set]
  by_cases h1:j=p
  ·subst h1
   have h2:¬ j=q:=by omega
   rw[if_pos rfl,if_pos hjl,if_neg h2]
   by_cases h3:i=q
   ·subst h3
    rw[if_pos rfl,if_pos hil]
    intro he
    rw[←hi,←hj] at he
    have:=inj _ _ hil he
    omega
   ·rw[if_neg h3,←hi]
    intro he
    exact h3 (inj _ _ hil he)
  ·rw[if_neg h1]
   by_cases h3:i=p
   ·subst h3
    rw[if_pos rfl,if_pos hil]
    by_cases h2:j=q
    ·subst h2
     rw[if_pos rfl,if_pos hjl,←hi,←hj]
     intro he
     have:=inj _ _ hjl he
     omega
    ·rw[if_neg h2,if_neg (by omega),←hj]
     intro he
     exact h2 (inj _ _ hjl he)
   ·rw[if_neg h3]
    by_cases h2:j=q
    ·subst h2
     rw[if_pos rfl,if_pos hjl,←hi]
     intro he
     exact h3 (inj _ _ hil he.symm)
    ·rw[if_neg h2]
     by_cases h4:i=q
     ·subst h4
      rw[if_pos rfl,if_pos hil,←hj]
      intro he
      exact h1 (inj _ _ hjl he.symm)
     ·rw[if_neg h4]
      intro he
      have:=inj _ _ (by omega) he
      omega
 refine List.pairwise_iff_getElem.2 fun p q hp hq hpq he=>?_
 simp only[List.length_set] at hp hq
 refine main p q hpq hq ?_
 rw[yL (by simpa using hp),yL (by simpa using hq),he]
theorem MatOK.swap {i j:Nat} {a b:MR} (hok:MatOK N rows) (hi:rows[i]?=some a) (hj:rows[j]?=some b):MatOK N ((rows.set i b).set j a):=by
 refine⟨by rw[List.length_set,List.length_set];exact hok.len,?_,fun x hx=>?_⟩
 ·rw[List.map_set,List.map_set]
  exact nodup_swap (by rw[yK,hi];rfl) (by rw[yK,hj];rfl) hok.nd
 ·rcases List.mem_or_eq_of_mem_set hx with hx | rfl
  ·rcases List.mem_or_eq_of_mem_set hx with hx | rfl
   ·exact hok.row x hx
   ·exact hok.row _ (List.mem_of_getElem? hj)
  ·exact hok.row _ (List.mem_of_getElem? hi)
end
/-! ### Reading and writing cells -/
theorem cutF {l:List FRaw} {i:Nat} {a b c d} (h:l[i]?=some ((a,b),(c,d))):cut (rowE fracL l) (i*4) 4=some [.dat (.int .i64 a),.dat (.sl (b.map i64L)),.dat (.int .i64 c),.dat (.sl (d.map i64L))]:=by
 have:=rowE_cut fracL_len h (f:=0) (n:=4) (by omega)
 rw[Nat.add_zero] at this
 rw[this]
 rfl
theorem storeF {l:List FRaw} {i k g:Nat} (h:i<l.length) (a:Int) (b:List Int) (c:Int) (d:List Int):storeC 4 k g (i*4) [.dat (.int .i64 a),.dat (.sl (b.map i64L)),.dat (.int .i64 c),.dat (.sl (d.map i64L))] (some (g,rowE fracL l))=some (.no,some (k,g,rowE fracL (l.set i ((a,b),(c,d))))):=by
 unfold storeC
 dsimp only
 rw[if_pos ⟨rfl,rfl,by rw[rowE_len fracL_len];omega,rfl⟩,←rowE_set fracL_len h]
 rfl
theorem cutR {N:Nat} {rows:List MR} {i:Nat} {x:MR} (h:rows[i]?=some x):cut (refsOf N rows) i 1=some [.ref (x.1+900000) x.2.1 4 0 (N+1)]:=by
 obtain⟨hlt,rfl⟩:=List.getElem?_eq_some_iff.1 h
 unfold cut refsOf
 rw[if_pos (by rw[yJ];omega),←List.map_drop,List.drop_eq_getElem_cons hlt]
 rfl
theorem storeR {N:Nat} {rows:List MR} {i g:Nat} (h:i<rows.length) (b:MR):storeC 1 129035 g i [.ref (b.1+900000) b.2.1 4 0 (N+1)] (some (g,refsOf N rows))=some (.no,some (129035,g,refsOf N (rows.set i b))):=by
 unfold storeC
 dsimp only
 rw[if_pos ⟨rfl,rfl,by unfold refsOf;rw[yJ];omega,rfl⟩]
 have:splice (refsOf N rows) i [.ref (b.1+900000) b.2.1 4 0 (N+1)]=refsOf N (rows.set i b):=by
  unfold splice refsOf
  rw[List.map_set,List.set_eq_take_append_cons_drop,if_pos (by rw[yJ];exact h),List.append_assoc]
  rfl
 rw[this]
theorem rowF_inj {l m:List FRaw} (h:rowE fracL l=rowE fracL m):l=m:=rowE_inj fracL_len fracL_inj _ _ h (by omega)
/-! ### What pivot computes -/
def zeroQ (f:FRaw):Bool:=f.1.1==0
def cellOf (x:MR) (c:Nat):FRaw:=x.2.2.getD c zeroF
def findAt (rows:List MR) (r c:Nat):Nat:=r+(rows.drop r).findIdx fun x => !zeroQ (cellOf x c)
def elimGo (fac:FRaw):List FRaw→List FRaw→Bool→List FRaw × Bool
 | f::fs,p::ps,false=>((subF f (mulF fac p).1).1::(elimGo fac fs ps ((mulF fac p).2 != 0||(subF f (mulF fac p).1).2 != 0)).1,(elimGo fac fs ps ((mulF fac p).2 != 0||(subF f (mulF fac p).1).2 != 0)).2)
 | fs,_,b=>(fs,b)
def elimRows (prow:List FRaw) (r c:Nat):Nat→List MR→Bool→List MR × Bool
 | _,[],bad=>([],bad)
 | i,x::xs,bad=>if (i==r||zeroQ (cellOf x c))=true then (x::(elimRows prow r c (i+1) xs bad).1,(elimRows prow r c (i+1) xs bad).2) else
  ((x.1,x.2.1,(elimGo (cellOf x c) x.2.2 prow bad).1)::(elimRows prow r c (i+1) xs (elimGo (cellOf x c) x.2.2 prow bad).2).1,(elimRows prow r c (i+1) xs (elimGo (cellOf x c) x.2.2 prow bad).2).2)
def divRow (by':FRaw) (l:List FRaw):List FRaw × Bool:=(l.map fun f=>(divF f by').1,l.any fun f=>(divF f by').2 != 0)
def rowAt (rows:List MR) (i:Nat):MR:=rows.getD i (0,0,[])
def swapped (rows:List MR) (i j:Nat):List MR:=(rows.set i (rowAt rows j)).set j (rowAt rows i)
def divided (rows:List MR) (r c:Nat):List MR:=rows.set r ((rowAt rows r).1,(rowAt rows r).2.1,(divRow (cellOf (rowAt rows r) c) (rowAt rows r).2.2).1)
def pivX (rows:List MR) (r c:Nat):Bool × List MR × Bool :=
 if findAt rows r c=rows.length then (true,rows,false) else
  (false,elimRows (divRow (cellOf (rowAt (swapped rows r (findAt rows r c)) r) c) (rowAt (swapped rows r (findAt rows r c)) r).2.2).1 r c 0 (divided (swapped rows r (findAt rows r c)) r c)
   (divRow (cellOf (rowAt (swapped rows r (findAt rows r c)) r) c) (rowAt (swapped rows r (findAt rows r c)) r).2.2).2)
theorem findAt_step {rows:List MR} {r c i:Nat} {x:MR} (hx:rows[i]?=some x) (hr:r≤i) (hz:∀ j y,r≤j→j<i→rows[j]?=some y→zeroQ (cellOf y c)=true) (h:zeroQ (cellOf x c)=false):findAt rows r c=i:=by
 unfold findAt
 obtain⟨hlt,hxi⟩:=List.getElem?_eq_some_iff.1 hx
 have:(rows.drop r).findIdx (fun x => !zeroQ (cellOf x c))=i-r:=by
  rw[List.findIdx_eq (by rw[List.length_drop];omega)]
  refine⟨?_,fun j hj=>?_⟩
  ·rw[List.getElem_drop]
   have:rows[r+(i-r)]?=some x:=by rw[show r+(i-r)=i by omega];exact hx
   rw[(List.getElem?_eq_some_iff.1 this).2,h];rfl
  ·rw[List.getElem_drop]
   have:=hz (r+j) _ (by omega) (by omega) (yL (by omega))
   rw[this];rfl
 omega
theorem findAt_end {rows:List MR} {r c:Nat} (hr:r≤rows.length) (hz:∀ j y,r≤j→rows[j]?=some y→zeroQ (cellOf y c)=true):findAt rows r c=rows.length:=by
 unfold findAt
 have:(rows.drop r).findIdx (fun x => !zeroQ (cellOf x c))=(rows.drop r).length:=by
  rw[List.findIdx_eq_length]
  intro y hy
  obtain⟨j,hj⟩:=List.mem_iff_getElem?.1 hy
  rw[List.getElem?_drop] at hj
  rw[hz (r+j) y (by omega) hj];rfl
 rw[this,List.length_drop]
 omega
end Go.Mini
