/- A part of the proof: MiniRf4, MiniRf5, MiniRf6, MiniKRef05, MiniRf7. -/
import Derived.Test.YtjcpopjafedmpaaGreatM08
import Derived.Test.YtjcpopjafedmpaaGreatM04
import Derived.Test.YtjcpopjafedmpaaGreatM07
set_option linter.unusedSimpArgs false
set_option linter.unusedVariables false
open Nat renaming reduceEqDiff → yA, reduceAdd → yB, reduceSub → yC, reduceMul → yD, reduceLeDiff → yE, reduceLT → yF, reduceBEq → yG
open Bool renaming false_eq_true → yH
open Int renaming reduceEq → yI
open List renaming length_map → yJ, getElem?_map → yK, getElem?_eq_getElem → yL
open List.cons renaming injEq → yM
namespace Go.Mini
open Go
set_option maxRecDepth 10000
set_option maxHeartbeats 4000000
def sameR (a b:Raw):Bool:=decide (a=b)
theorem i64L_get (l:List Int) (i:Nat):(l.map i64L)[i]?=l[i]?.map i64L:=yK ..
noncomputable def F_rSame:List Data→Option PRes:=FF (α:=Int × (List Int) × Int × (List Int)) (fun (s,l,s2,l2)=>([.agg [.int .i64 s,.sl (l.map i64L)],.agg [.int .i64 s2,.sl (l2.map i64L)]]:List Data)) (fun (s,l,s2,l2)=>onlyIf (l.length≤1000000∧l2.length≤1000000) (.same (.bool (sameR (s,l) (s2,l2)))))
theorem F_rSame_inj:∀ a b:Int × (List Int) × Int × (List Int),(fun (s,l,s2,l2)=>([.agg [.int .i64 s,.sl (l.map i64L)],.agg [.int .i64 s2,.sl (l2.map i64L)]]:List Data)) a=(fun (s,l,s2,l2)=>([.agg [.int .i64 s,.sl (l.map i64L)],.agg [.int .i64 s2,.sl (l2.map i64L)]]:List Data)) b→a=b:=by
  rintro⟨s1,l1,s21,l21⟩ ⟨s2,l2,s22,l22⟩ h
  simp only[yM,Data.agg.injEq,Data.int.injEq,Data.sl.injEq] at h;exact Prod.ext h.1.1.2 (Prod.ext (map_inj i64L_inj _ _ h.1.2.1) (Prod.ext h.2.1.1.2 (map_inj i64L_inj _ _ h.2.1.2.1)))
@[go_sem] theorem F_rSame_eq (s:Int) (l:List Int) (s2:Int) (l2:List Int) (hc:l.length≤1000000∧l2.length≤1000000):F_rSame [.agg [.int .i64 s,.sl (l.map i64L)],.agg [.int .i64 s2,.sl (l2.map i64L)]]=some (.same (.bool (sameR (s,l) (s2,l2)))):=(FF_eq F_rSame_inj (s,l,s2,l2)).trans (onlyIf_pos hc _)
theorem w_rSame (T:Tab)  (s:Int) (l:List Int) (s2:Int) (l2:List Int) (hc:l.length≤1000000∧l2.length≤1000000) :
  wp T mf_ref04_Same.body (endS mf_ref04_Same.res (.same (.bool (sameR (s,l) (s2,l2))))) ⟨initTm [.dat (.agg [.int .i64 s,.sl (l.map i64L)]),.dat (.agg [.int .i64 s2,.sl (l2.map i64L)])],emp⟩:=by
 refine wp_start ?_
 simp only[mf_ref04_Same]
 obtain⟨hl1,hl2⟩:=hc
 by_cases hs:s=s2
 ·subst hs
  by_cases hl:l.length=l2.length
  ·have e1:(((l.length:Nat):Int)==((l2.length:Nat):Int))=true:=by simp;omega
   simp only[go_sem,reduceIte,yA,yB,yC,yD,yE,yH,reduceCtorEq,yF,yG,yI,beq_self_eq_true,yJ,e1,Bool.not_true,bne]
   refine wp_loop_keep [2,3] [210002,210003] (fun (i:Nat) tm mem=>i≤l.length∧l.take i=l2.take i∧tm 5 = .dat (.int .i64 i)) (fun i=>l.length-i) 0 (by refine⟨by omega,by simp,rfl⟩) ?_
   intro vs ms hvs hms
   simp only[go_sem,reduceIte,yA,yB,yC,yD,yE,yH,reduceCtorEq,yF,yG,yI,yJ] at hvs hms
   subst hvs hms
   rintro i tm mem hk hm ⟨hi,hf,h5⟩
   simp only[go_sem,reduceIte,yA,yB,yC,yD,yE,yH,reduceCtorEq,yF,yG,yI,yM] at hk hm
   obtain⟨h2,h3⟩:=hk
   obtain⟨m2,m3⟩:=hm
   rcases Decidable.em (i<l.length) with hlt | hge
   ·have hx:l[i]?=some l[i]:=yL hlt
    have hy:l2[i]?=some l2[i]:=yL (by omega)
    have hn1:l.take (i+1)=l.take i++[l[i]]:=by rw[List.take_add_one,hx];rfl
    have hn2:l2.take (i+1)=l2.take i++[l2[i]]:=by rw[List.take_add_one,hy];rfl
    generalize l[i]=x at *
    generalize l2[i]=y at *
    have d1:decide ((i:Int)<(l.length:Int))=true:=decide_eq_true (by omega)
    have w3:IntKind.i64.wrap ((i:Int)+1)=((i+1:Nat):Int):=by rw[wrap64 _ (by omega) (by omega)];omega
    by_cases hxy:x=y
    ·subst hxy
     simp only[go_sem,reduceIte,yA,yB,yC,yD,yE,yH,reduceCtorEq,yF,yG,yI,h2,h3,h5,m2,m3,hx,hy,d1,w3,i64L,yJ,yK,yM,beq_self_eq_true,Bool.not_true]
     repeat' (first|refine qqA ?_ ?_|refine qqB ?_ ?_|refine qqC ?_ ?_|refine qqD ?_ ?_|refine qqE ?_ ?_|refine qqF ?_ ?_)<;>intro h<;>simp only[h,go_sem,reduceIte,yA,yB,yC,yD,yE,yH,reduceCtorEq,yF,yG,yI,h2,h3,h5,m2,m3,hx,hy,d1,w3,i64L,yJ,yK,yM,beq_self_eq_true,Bool.not_true]
     exact⟨i+1,by omega,by omega,by rw[hn1,hn2,hf],rfl⟩
    ·have hne:(x==y)=false:=by simpa using hxy
     have hr:sameR (s,l) (s,l2)=false:=by
      refine decide_eq_false fun h=>hxy ?_
      rw[Prod.mk.injEq] at h
      rw[h.2,hy] at hx
      exact (Option.some.inj hx).symm
     rw[hr]
     simp only[go_sem,reduceIte,yA,yB,yC,yD,yE,yH,reduceCtorEq,yF,yG,yI,h2,h3,h5,m2,m3,hx,hy,d1,w3,hne,i64L,yJ,yK,yM,Bool.not_false]
     repeat' (first|refine qqA ?_ ?_|refine qqB ?_ ?_|refine qqC ?_ ?_|refine qqD ?_ ?_|refine qqE ?_ ?_|refine qqF ?_ ?_)<;>intro h<;>simp only[h,go_sem,reduceIte,yA,yB,yC,yD,yE,yH,reduceCtorEq,yF,yG,yI,h2,h3,h5,m2,m3,hx,hy,d1,w3,hne,i64L,yJ,yK,yM,Bool.not_false]
   ·have d1:decide ((i:Int)<(l.length:Int))=false:=decide_eq_false (by omega)
    have hr:sameR (s,l) (s,l2)=true:=by
     refine decide_eq_true ?_
     rw[List.take_of_length_le (by omega),List.take_of_length_le (by omega)] at hf
     rw[hf]
    rw[hr]
    simp only[go_sem,reduceIte,yA,yB,yC,yD,yE,yH,reduceCtorEq,yF,yG,yI,h2,h3,h5,m2,m3,d1,yJ]
    repeat' (first|refine qqA ?_ ?_|refine qqB ?_ ?_|refine qqC ?_ ?_|refine qqD ?_ ?_|refine qqE ?_ ?_|refine qqF ?_ ?_)<;>intro h<;>simp only[h,go_sem,reduceIte,yA,yB,yC,yD,yE,yH,reduceCtorEq,yF,yG,yI,h2,h3,h5,m2,m3,d1,yJ]
  ·have e1:(((l.length:Nat):Int)==((l2.length:Nat):Int))=false:=by simp;omega
   have hr:sameR (s,l) (s,l2)=false:=by
    refine decide_eq_false fun h=>hl ?_
    rw[Prod.mk.injEq] at h
    rw[h.2]
   rw[hr]
   simp only[go_sem,reduceIte,yA,yB,yC,yD,yE,yH,reduceCtorEq,yF,yG,yI,beq_self_eq_true,yJ,e1,Bool.not_true,Bool.not_false,bne]
   repeat' (first|refine qqA ?_ ?_|refine qqB ?_ ?_|refine qqC ?_ ?_|refine qqD ?_ ?_|refine qqE ?_ ?_|refine qqF ?_ ?_)<;>intro h<;>simp only[h,go_sem,reduceIte,yA,yB,yC,yD,yE,yH,reduceCtorEq,yF,yG,yI,beq_self_eq_true,yJ,e1,Bool.not_true,Bool.not_false,bne]
 ·have hne:(s==s2)=false:=by simpa using hs
  have hr:sameR (s,l) (s2,l2)=false:=by
   refine decide_eq_false fun h=>hs ?_
   rw[Prod.mk.injEq] at h
   exact h.1
  rw[hr]
  simp only[go_sem,reduceIte,yA,yB,yC,yD,yE,yH,reduceCtorEq,yF,yG,yI,hne,yJ,Bool.not_true,Bool.not_false,bne]
  repeat' (first|refine qqA ?_ ?_|refine qqB ?_ ?_|refine qqC ?_ ?_|refine qqD ?_ ?_|refine qqE ?_ ?_|refine qqF ?_ ?_)<;>intro h<;>simp only[h,go_sem,reduceIte,yA,yB,yC,yD,yE,yH,reduceCtorEq,yF,yG,yI,hne,yJ,Bool.not_true,Bool.not_false,bne]
noncomputable def F_rkept:List Data→Option PRes:=FF (α:=Int × (List Int)) (fun (s,l)=>([.agg [.int .i64 s,.sl (l.map i64L)]]:List Data)) (fun (s,l)=>some (.same (bigE (checkR (s,l)))))
theorem F_rkept_inj:∀ a b:Int × (List Int),(fun (s,l)=>([.agg [.int .i64 s,.sl (l.map i64L)]]:List Data)) a=(fun (s,l)=>([.agg [.int .i64 s,.sl (l.map i64L)]]:List Data)) b→a=b:=by
  rintro⟨s1,l1⟩ ⟨s2,l2⟩ h
  simp only[yM,Data.agg.injEq,Data.int.injEq,Data.sl.injEq] at h;exact Prod.ext h.1.1.2 (map_inj i64L_inj _ _ h.1.2.1)
@[go_sem] theorem F_rkept_eq (s:Int) (l:List Int):F_rkept [.agg [.int .i64 s,.sl (l.map i64L)]]=some (.same (bigE (checkR (s,l)))):=FF_eq F_rkept_inj (s,l)
theorem w_rkept (T:Tab)  (s:Int) (l:List Int) :
  wp T mf_ref04_kept.body (endS mf_ref04_kept.res (.same (bigE (checkR (s,l))))) ⟨initTm [.dat (.agg [.int .i64 s,.sl (l.map i64L)])],emp⟩:=by
 refine wp_start ?_
 simp only[mf_ref04_kept]
 simp only[go_sem,reduceIte,yA,yB,yC,yD,yE,yH,reduceCtorEq,yF,yG,yI,yJ]
 repeat' (first|refine qqA ?_ ?_|refine qqB ?_ ?_|refine qqC ?_ ?_|refine qqD ?_ ?_|refine qqE ?_ ?_|refine qqF ?_ ?_)<;>intro h<;>simp only[h,go_sem,reduceIte,yA,yB,yC,yD,yE,yH,reduceCtorEq,yF,yG,yI,yJ]
 all_goals (simp only[bigE,bigL,checkR];simp only[List.map_nil, *,reduceIte,Bool.not_true,Bool.not_false,Bool.or_true,Bool.true_or,Bool.or_false,Bool.false_or,Bool.and_true,Bool.true_and,Bool.and_false,Bool.false_and,yH,beq_self_eq_true,bne])
theorem enc_inj {x y:Int} (h:encB x=encB y):x=y:=by rw[←valB_enc x,h,valB_enc]
noncomputable def F_rCompare:List Data→Option PRes:=FF (α:=Int × (List Int) × Int × (List Int)) (fun (s,l,s2,l2)=>([.agg [.int .i64 s,.sl (l.map i64L)],.agg [.int .i64 s2,.sl (l2.map i64L)]]:List Data)) (fun (s,l,s2,l2)=>onlyIf (l.length≤1000000∧l2.length≤1000000) (.same (.int .i64 (cmpR (s,l) (s2,l2)))))
theorem F_rCompare_inj:∀ a b:Int × (List Int) × Int × (List Int),(fun (s,l,s2,l2)=>([.agg [.int .i64 s,.sl (l.map i64L)],.agg [.int .i64 s2,.sl (l2.map i64L)]]:List Data)) a=(fun (s,l,s2,l2)=>([.agg [.int .i64 s,.sl (l.map i64L)],.agg [.int .i64 s2,.sl (l2.map i64L)]]:List Data)) b→a=b:=by
  rintro⟨s1,l1,s21,l21⟩ ⟨s2,l2,s22,l22⟩ h
  simp only[yM,Data.agg.injEq,Data.int.injEq,Data.sl.injEq] at h;exact Prod.ext h.1.1.2 (Prod.ext (map_inj i64L_inj _ _ h.1.2.1) (Prod.ext h.2.1.1.2 (map_inj i64L_inj _ _ h.2.1.2.1)))
@[go_sem] theorem F_rCompare_eq (s:Int) (l:List Int) (s2:Int) (l2:List Int) (hc:l.length≤1000000∧l2.length≤1000000):F_rCompare [.agg [.int .i64 s,.sl (l.map i64L)],.agg [.int .i64 s2,.sl (l2.map i64L)]]=some (.same (.int .i64 (cmpR (s,l) (s2,l2)))):=(FF_eq F_rCompare_inj (s,l,s2,l2)).trans (onlyIf_pos hc _)
theorem w_rCompare (T:Tab) (h_rRight:T id_ref04_Right=mkE F_rRight) (h_rSame:T id_ref04_Same=mkE F_rSame) (h_rless:T id_ref04_less=mkE F_rless) (s:Int) (l:List Int) (s2:Int) (l2:List Int) (hc:l.length≤1000000∧l2.length≤1000000) :
  wp T mf_ref04_Compare.body (endS mf_ref04_Compare.res (.same (.int .i64 (cmpR (s,l) (s2,l2))))) ⟨initTm [.dat (.agg [.int .i64 s,.sl (l.map i64L)]),.dat (.agg [.int .i64 s2,.sl (l2.map i64L)])],emp⟩:=by
 refine wp_start ?_
 simp only[mf_ref04_Compare]
 obtain⟨hl1,hl2⟩:=hc
 by_cases hr:rightR (s,l)=true
 ·by_cases hr2:rightR (s2,l2)=true
  ·obtain⟨x,hx,e⟩:=(rightR_iff _).1 hr
   obtain⟨y,hy,e2⟩:=(rightR_iff _).1 hr2
   have hm:cmpR (s,l) (s2,l2)=cmpI x y:=by rw[e,e2];exact cmpR_enc hx hy
   rw[hm]
   clear hm
   have hsm:sameR (s,l) (s2,l2)=decide (x=y):=by
    rw[e,e2]
    exact decide_eq_decide.2 ⟨enc_inj,fun h=>by rw[h]⟩
   cases e
   cases e2
   have hlx:=lim_len hx
   have hly:=lim_len hy
   by_cases hxy:x=y
   ·subst hxy
    rw[decide_eq_true rfl] at hsm
    rw[cmpI_eq]
    simp only[go_sem,reduceIte,yA,yB,yC,yD,yE,yH,reduceCtorEq,yF,yG,yI,h_rRight,h_rSame,h_rless,hr,hr2,hl1,hl2,hsm]
    repeat' (first|refine qqA ?_ ?_|refine qqB ?_ ?_|refine qqC ?_ ?_|refine qqD ?_ ?_|refine qqE ?_ ?_|refine qqF ?_ ?_)<;>intro h<;>simp only[h,go_sem,reduceIte,yA,yB,yC,yD,yE,yH,reduceCtorEq,yF,yG,yI,h_rRight,h_rSame,h_rless,hr,hr2,hl1,hl2,hsm]
   ·rw[decide_eq_false hxy] at hsm
    have hL:=F_rless_eq x.natAbs y.natAbs ⟨by omega,by omega⟩
    simp only[digs] at hL
    have hcx:cmpI x y=if x<y then -1 else 1:=by
     rcases Int.lt_trichotomy x y with h | h | h
     ·rw[cmpI_lt h,if_pos h]
     ·exact absurd h hxy
     ·rw[cmpI_gt h,if_neg (by omega)]
    rw[hcx]
    by_cases hs:x.sign=y.sign
    ·have hse:(x.sign==y.sign)=true:=by simpa using hs
     have hres:(decide (x.natAbs<y.natAbs)==decide (x.sign>0))=decide (x<y):=by
      rw[Bool.beq_eq_decide_eq,decide_eq_decide]
      simp only[decide_eq_decide]
      rcases sign_tri x with ⟨e,h1⟩ | ⟨e,h1⟩ | ⟨e,h1⟩<;>rcases sign_tri y with ⟨e',h2⟩ | ⟨e',h2⟩ | ⟨e',h2⟩<;>rw[e,e'] at hs<;>first | omega | skip
     by_cases hlt:x<y
     ·rw[decide_eq_true hlt] at hres
      rw[if_pos hlt]
      simp only[go_sem,reduceIte,yA,yB,yC,yD,yE,yH,reduceCtorEq,yF,yG,yI,h_rRight,h_rSame,h_rless,hr,hr2,hl1,hl2,hsm,hse,hL,hres,Bool.not_true,bne]
      repeat' (first|refine qqA ?_ ?_|refine qqB ?_ ?_|refine qqC ?_ ?_|refine qqD ?_ ?_|refine qqE ?_ ?_|refine qqF ?_ ?_)<;>intro h<;>simp only[h,go_sem,reduceIte,yA,yB,yC,yD,yE,yH,reduceCtorEq,yF,yG,yI,h_rRight,h_rSame,h_rless,hr,hr2,hl1,hl2,hsm,hse,hL,hres,Bool.not_true,bne]
     ·rw[decide_eq_false hlt] at hres
      rw[if_neg hlt]
      simp only[go_sem,reduceIte,yA,yB,yC,yD,yE,yH,reduceCtorEq,yF,yG,yI,h_rRight,h_rSame,h_rless,hr,hr2,hl1,hl2,hsm,hse,hL,hres,Bool.not_true,bne]
      repeat' (first|refine qqA ?_ ?_|refine qqB ?_ ?_|refine qqC ?_ ?_|refine qqD ?_ ?_|refine qqE ?_ ?_|refine qqF ?_ ?_)<;>intro h<;>simp only[h,go_sem,reduceIte,yA,yB,yC,yD,yE,yH,reduceCtorEq,yF,yG,yI,h_rRight,h_rSame,h_rless,hr,hr2,hl1,hl2,hsm,hse,hL,hres,Bool.not_true,bne]
    ·have hse:(x.sign==y.sign)=false:=by simpa using hs
     have hres:decide (x.sign<y.sign)=decide (x<y):=by
      rw[decide_eq_decide]
      rcases sign_tri x with ⟨e,h1⟩ | ⟨e,h1⟩ | ⟨e,h1⟩<;>rcases sign_tri y with ⟨e',h2⟩ | ⟨e',h2⟩ | ⟨e',h2⟩<;>rw[e,e'] at hs ⊢<;>omega
     by_cases hlt:x<y
     ·rw[decide_eq_true hlt] at hres
      rw[if_pos hlt]
      simp only[go_sem,reduceIte,yA,yB,yC,yD,yE,yH,reduceCtorEq,yF,yG,yI,h_rRight,h_rSame,h_rless,hr,hr2,hl1,hl2,hsm,hse,hres,Bool.not_false,bne]
      repeat' (first|refine qqA ?_ ?_|refine qqB ?_ ?_|refine qqC ?_ ?_|refine qqD ?_ ?_|refine qqE ?_ ?_|refine qqF ?_ ?_)<;>intro h<;>simp only[h,go_sem,reduceIte,yA,yB,yC,yD,yE,yH,reduceCtorEq,yF,yG,yI,h_rRight,h_rSame,h_rless,hr,hr2,hl1,hl2,hsm,hse,hres,Bool.not_false,bne]
     ·rw[decide_eq_false hlt] at hres
      rw[if_neg hlt]
      simp only[go_sem,reduceIte,yA,yB,yC,yD,yE,yH,reduceCtorEq,yF,yG,yI,h_rRight,h_rSame,h_rless,hr,hr2,hl1,hl2,hsm,hse,hres,Bool.not_false,bne]
      repeat' (first|refine qqA ?_ ?_|refine qqB ?_ ?_|refine qqC ?_ ?_|refine qqD ?_ ?_|refine qqE ?_ ?_|refine qqF ?_ ?_)<;>intro h<;>simp only[h,go_sem,reduceIte,yA,yB,yC,yD,yE,yH,reduceCtorEq,yF,yG,yI,h_rRight,h_rSame,h_rless,hr,hr2,hl1,hl2,hsm,hse,hres,Bool.not_false,bne]
  ·have hr2:rightR (s2,l2)=false:=by simpa using hr2
   have hm:cmpR (s,l) (s2,l2)=0:=by unfold cmpR;rw[hr2,Bool.and_false];rfl
   rw[hm]
   simp only[go_sem,reduceIte,yA,yB,yC,yD,yE,yH,reduceCtorEq,yF,yG,yI,h_rRight,h_rSame,h_rless,hr,hr2,hl1,hl2]
   repeat' (first|refine qqA ?_ ?_|refine qqB ?_ ?_|refine qqC ?_ ?_|refine qqD ?_ ?_|refine qqE ?_ ?_|refine qqF ?_ ?_)<;>intro h<;>simp only[h,go_sem,reduceIte,yA,yB,yC,yD,yE,yH,reduceCtorEq,yF,yG,yI,h_rRight,h_rSame,h_rless,hr,hr2,hl1,hl2]
 ·have hr:rightR (s,l)=false:=by simpa using hr
  have hm:cmpR (s,l) (s2,l2)=0:=by unfold cmpR;rw[hr,Bool.false_and];rfl
  rw[hm]
  simp only[go_sem,reduceIte,yA,yB,yC,yD,yE,yH,reduceCtorEq,yF,yG,yI,h_rRight,h_rSame,h_rless,hr,hl1,hl2]
  repeat' (first|refine qqA ?_ ?_|refine qqB ?_ ?_|refine qqC ?_ ?_|refine qqD ?_ ?_|refine qqE ?_ ?_|refine qqF ?_ ?_)<;>intro h<;>simp only[h,go_sem,reduceIte,yA,yB,yC,yD,yE,yH,reduceCtorEq,yF,yG,yI,h_rRight,h_rSame,h_rless,hr,hl1,hl2]
noncomputable def F_rGcd:List Data→Option PRes:=FF (α:=Int × (List Int) × Int × (List Int)) (fun (s,l,s2,l2)=>([.agg [.int .i64 s,.sl (l.map i64L)],.agg [.int .i64 s2,.sl (l2.map i64L)]]:List Data)) (fun (s,l,s2,l2)=>onlyIf (l.length≤1000000∧l2.length≤1000000) (.same (bigE (gcdR (s,l) (s2,l2)))))
theorem F_rGcd_inj:∀ a b:Int × (List Int) × Int × (List Int),(fun (s,l,s2,l2)=>([.agg [.int .i64 s,.sl (l.map i64L)],.agg [.int .i64 s2,.sl (l2.map i64L)]]:List Data)) a=(fun (s,l,s2,l2)=>([.agg [.int .i64 s,.sl (l.map i64L)],.agg [.int .i64 s2,.sl (l2.map i64L)]]:List Data)) b→a=b:=by
  rintro⟨s1,l1,s21,l21⟩ ⟨s2,l2,s22,l22⟩ h
  simp only[yM,Data.agg.injEq,Data.int.injEq,Data.sl.injEq] at h;exact Prod.ext h.1.1.2 (Prod.ext (map_inj i64L_inj _ _ h.1.2.1) (Prod.ext h.2.1.1.2 (map_inj i64L_inj _ _ h.2.1.2.1)))
@[go_sem] theorem F_rGcd_eq (s:Int) (l:List Int) (s2:Int) (l2:List Int) (hc:l.length≤1000000∧l2.length≤1000000):F_rGcd [.agg [.int .i64 s,.sl (l.map i64L)],.agg [.int .i64 s2,.sl (l2.map i64L)]]=some (.same (bigE (gcdR (s,l) (s2,l2)))):=(FF_eq F_rGcd_inj (s,l,s2,l2)).trans (onlyIf_pos hc _)
theorem w_rGcd (T:Tab) (h_rRight:T id_ref04_Right=mkE F_rRight) (h_rover:T id_ref04_over=mkE F_rover) (h_rmade:T id_ref04_made=mkE F_rmade) (s:Int) (l:List Int) (s2:Int) (l2:List Int) (hc:l.length≤1000000∧l2.length≤1000000) :
  wp T mf_ref04_Gcd.body (endS mf_ref04_Gcd.res (.same (bigE (gcdR (s,l) (s2,l2))))) ⟨initTm [.dat (.agg [.int .i64 s,.sl (l.map i64L)]),.dat (.agg [.int .i64 s2,.sl (l2.map i64L)])],emp⟩:=by
 refine wp_start ?_
 simp only[mf_ref04_Gcd]
 obtain⟨hl1,hl2⟩:=hc
 by_cases hr:rightR (s,l)=true
 ·by_cases hr2:rightR (s2,l2)=true
  ·obtain⟨x,hx,e⟩:=(rightR_iff _).1 hr
   obtain⟨y,hy,e2⟩:=(rightR_iff _).1 hr2
   have hm:gcdR (s,l) (s2,l2)=(encB (Nat.gcd x.natAbs y.natAbs:Nat),0):=by
    rw[e,e2];unfold gcdR
    rw[right_enc hx,right_enc hy,valB_enc,valB_enc]
    rfl
   rw[hm]
   clear hm
   cases e
   cases e2
   have hlx:=lim_len hx
   have hly:=lim_len hy
   have hg:=gcd_lim hx hy
   generalize hX:x.natAbs=X at *
   generalize hY:y.natAbs=Y at *
   have hl1':(dg X).length≤1000000:=by omega
   simp only[go_sem,reduceIte,yA,yB,yC,yD,yE,yH,reduceCtorEq,yF,yG,yI,h_rRight,h_rover,h_rmade,hr,hr2,hX,hY,hl1,hl2,hl1',i64L,yJ]
   refine wp_loop_keep [4] [164004] (fun ((a,b):Nat × Nat) tm mem=>a<LIM∧b<LIM∧Nat.gcd X Y=Nat.gcd a b∧tm 6 = .dat (.sl ((dg a).map i64L))∧tm 7 = .dat (.sl ((dg b).map i64L))) (fun (_,b)=>b) (X,Y) (by refine⟨hx,hy,rfl,rfl,rfl⟩) ?_
   intro vs ms hvs hms
   simp only[go_sem,reduceIte,yA,yB,yC,yD,yE,yH,reduceCtorEq,yF,yG,yI,h_rRight,h_rover,h_rmade,hX,hY] at hvs hms
   subst hvs hms
   rintro⟨a,b⟩ tm mem hk hm ⟨ha,hb,hgc,h6,h7⟩
   simp only[go_sem,reduceIte,yA,yB,yC,yD,yE,yH,reduceCtorEq,yF,yG,yI,h_rRight,h_rover,h_rmade,yM] at hk hm
   have h4:=hk
   have hla:(dg a).length≤60:=dg_len.2 ha
   have hlb:(dg b).length≤60:=dg_len.2 hb
   rcases Nat.eq_zero_or_pos b with h0 | hpos
   ·subst h0
    have hz:dg 0=[]:=rfl
    have hla':(dg a).length≤1000000:=by omega
    rw[Nat.gcd_zero_right] at hgc
    have hs:signR 1 (dg a)=encB ((a:Nat):Int):=signR_enc (by simp) fun hn=>(Int.sign_eq_one_of_pos (by omega)).symm
    rw[hgc]
    simp only[go_sem,reduceIte,yA,yB,yC,yD,yE,yH,reduceCtorEq,yF,yG,yI,h_rRight,h_rover,h_rmade,h4,h6,h7,hm,hz,hla',hs,bigL,bigE,pair_eta,List.map_nil,List.length_nil,Int.natCast_zero,Int.cast_ofNat_Int,show ¬ ((0:Int)>0) by omega,decide_false]
    repeat' (first|refine qqA ?_ ?_|refine qqB ?_ ?_|refine qqC ?_ ?_|refine qqD ?_ ?_|refine qqE ?_ ?_|refine qqF ?_ ?_)<;>intro h<;>simp only[h,go_sem,reduceIte,yA,yB,yC,yD,yE,yH,reduceCtorEq,yF,yG,yI,h_rRight,h_rover,h_rmade,h4,h6,h7,hm,hz,hla',hs,bigL,bigE,pair_eta,List.map_nil,List.length_nil,Int.natCast_zero,Int.cast_ofNat_Int,show ¬ ((0:Int)>0) by omega,decide_false]
   ·have hne:decide (((dg b).length:Int)>0)=true:=by
     have:dg b≠[]:=by rw[Ne,dg_nil];omega
     have:=List.length_pos_iff.2 this
     exact decide_eq_true (by omega)
    have hdiv:=F_rover_eq a b ⟨by omega,by omega,hpos⟩
    simp only[digs] at hdiv
    simp only[go_sem,reduceIte,yA,yB,yC,yD,yE,yH,reduceCtorEq,yF,yG,yI,h_rRight,h_rover,h_rmade,h4,h6,h7,hm,hne,hdiv,yJ]
    repeat' (first|refine qqA ?_ ?_|refine qqB ?_ ?_|refine qqC ?_ ?_|refine qqD ?_ ?_|refine qqE ?_ ?_|refine qqF ?_ ?_)<;>intro h<;>simp only[h,go_sem,reduceIte,yA,yB,yC,yD,yE,yH,reduceCtorEq,yF,yG,yI,h_rRight,h_rover,h_rmade,h4,h6,h7,hm,hne,hdiv,yJ]
    exact⟨(b,a % b),Nat.mod_lt _ hpos,hb,Nat.lt_of_le_of_lt (Nat.mod_le _ _) ha,by dsimp only;rw[hgc,Nat.gcd_comm a b,Nat.gcd_rec b a,Nat.gcd_comm],rfl,rfl⟩
  ·have hr2:rightR (s2,l2)=false:=by simpa using hr2
   have hm:gcdR (s,l) (s2,l2)=((0,[]),1):=by unfold gcdR;rw[hr2,Bool.and_false];rfl
   rw[hm]
   simp only[go_sem,reduceIte,yA,yB,yC,yD,yE,yH,reduceCtorEq,yF,yG,yI,h_rRight,h_rover,h_rmade,hr,hr2,hl1,hl2,bigL,bigE,List.map_nil]
   repeat' (first|refine qqA ?_ ?_|refine qqB ?_ ?_|refine qqC ?_ ?_|refine qqD ?_ ?_|refine qqE ?_ ?_|refine qqF ?_ ?_)<;>intro h<;>simp only[h,go_sem,reduceIte,yA,yB,yC,yD,yE,yH,reduceCtorEq,yF,yG,yI,h_rRight,h_rover,h_rmade,hr,hr2,hl1,hl2,bigL,bigE,List.map_nil]
 ·have hr:rightR (s,l)=false:=by simpa using hr
  have hm:gcdR (s,l) (s2,l2)=((0,[]),1):=by unfold gcdR;rw[hr,Bool.false_and];rfl
  rw[hm]
  simp only[go_sem,reduceIte,yA,yB,yC,yD,yE,yH,reduceCtorEq,yF,yG,yI,h_rRight,h_rover,h_rmade,hr,hl1,hl2,bigL,bigE,List.map_nil]
  repeat' (first|refine qqA ?_ ?_|refine qqB ?_ ?_|refine qqC ?_ ?_|refine qqD ?_ ?_|refine qqE ?_ ?_|refine qqF ?_ ?_)<;>intro h<;>simp only[h,go_sem,reduceIte,yA,yB,yC,yD,yE,yH,reduceCtorEq,yF,yG,yI,h_rRight,h_rover,h_rmade,hr,hl1,hl2,bigL,bigE,List.map_nil]
noncomputable def F_rMul:List Data→Option PRes:=FF (α:=Int × (List Int) × Int × (List Int)) (fun (s,l,s2,l2)=>([.agg [.int .i64 s,.sl (l.map i64L)],.agg [.int .i64 s2,.sl (l2.map i64L)]]:List Data)) (fun (s,l,s2,l2)=>onlyIf (l.length≤1000000∧l2.length≤1000000) (.same (bigE (mulR (s,l) (s2,l2)))))
theorem F_rMul_inj:∀ a b:Int × (List Int) × Int × (List Int),(fun (s,l,s2,l2)=>([.agg [.int .i64 s,.sl (l.map i64L)],.agg [.int .i64 s2,.sl (l2.map i64L)]]:List Data)) a=(fun (s,l,s2,l2)=>([.agg [.int .i64 s,.sl (l.map i64L)],.agg [.int .i64 s2,.sl (l2.map i64L)]]:List Data)) b→a=b:=by
  rintro⟨s1,l1,s21,l21⟩ ⟨s2,l2,s22,l22⟩ h
  simp only[yM,Data.agg.injEq,Data.int.injEq,Data.sl.injEq] at h;exact Prod.ext h.1.1.2 (Prod.ext (map_inj i64L_inj _ _ h.1.2.1) (Prod.ext h.2.1.1.2 (map_inj i64L_inj _ _ h.2.1.2.1)))
@[go_sem] theorem F_rMul_eq (s:Int) (l:List Int) (s2:Int) (l2:List Int) (hc:l.length≤1000000∧l2.length≤1000000):F_rMul [.agg [.int .i64 s,.sl (l.map i64L)],.agg [.int .i64 s2,.sl (l2.map i64L)]]=some (.same (bigE (mulR (s,l) (s2,l2)))):=(FF_eq F_rMul_inj (s,l,s2,l2)).trans (onlyIf_pos hc _)
theorem w_rMul (T:Tab) (h_rRight:T id_ref04_Right=mkE F_rRight) (h_rtimes:T id_ref04_times=mkE F_rtimes) (h_rmade:T id_ref04_made=mkE F_rmade) (h_rkept:T id_ref04_kept=mkE F_rkept) (s:Int) (l:List Int) (s2:Int) (l2:List Int) (hc:l.length≤1000000∧l2.length≤1000000) :
  wp T mf_ref04_Mul.body (endS mf_ref04_Mul.res (.same (bigE (mulR (s,l) (s2,l2))))) ⟨initTm [.dat (.agg [.int .i64 s,.sl (l.map i64L)]),.dat (.agg [.int .i64 s2,.sl (l2.map i64L)])],emp⟩:=by
 refine wp_start ?_
 simp only[mf_ref04_Mul]
 obtain⟨hl1,hl2⟩:=hc
 by_cases hr:rightR (s,l)=true
 ·by_cases hr2:rightR (s2,l2)=true
  ·obtain⟨x,hx,e⟩:=(rightR_iff _).1 hr
   obtain⟨y,hy,e2⟩:=(rightR_iff _).1 hr2
   have hm:mulR (s,l) (s2,l2)=keepB (x*y):=by rw[e,e2];exact mulR_enc hx hy
   rw[hm]
   clear hm
   cases e
   cases e2
   have h1:=sign_abs x
   have h2:=sign_abs y
   have hp:x.sign*y.sign=(x*y).sign:=(Int.sign_mul x y).symm
   have h3:=sign_abs (x*y)
   have hw:IntKind.i64.wrap (x.sign*y.sign)=(x*y).sign:=by rw[hp];exact wrap64 _ (by omega) (by omega)
   have hmul:=F_rtimes_eq x.natAbs y.natAbs ⟨Nat.le_trans (lim_len hx) (by omega),Nat.le_trans (lim_len hy) (by omega)⟩
   simp only[digs] at hmul
   have hlen:(dg (x.natAbs*y.natAbs)).length≤1000000:=by
    refine Nat.le_trans ((dg_len (k:=120)).2 ?_) (by omega)
    have:(1048576^120:Nat)=LIM*LIM:=by unfold LIM;rw[←Nat.pow_add]
    rw[this]
    exact Nat.mul_lt_mul'' hx hy
   have hs:signR (x*y).sign (dg (x.natAbs*y.natAbs))=encB (x*y):=signR_enc (Int.natAbs_mul x y) fun _=>rfl
   simp only[go_sem,reduceIte,yA,yB,yC,yD,yE,yH,reduceCtorEq,yF,yG,yI,h_rRight,h_rtimes,h_rmade,h_rkept,hr,hr2,hl1,hl2,hw,hmul,hlen,hs,check_enc,bigL,bigE,pair_eta]
   repeat' (first|refine qqA ?_ ?_|refine qqB ?_ ?_|refine qqC ?_ ?_|refine qqD ?_ ?_|refine qqE ?_ ?_|refine qqF ?_ ?_)<;>intro h<;>simp only[h,go_sem,reduceIte,yA,yB,yC,yD,yE,yH,reduceCtorEq,yF,yG,yI,h_rRight,h_rtimes,h_rmade,h_rkept,hr,hr2,hl1,hl2,hw,hmul,hlen,hs,check_enc,bigL,bigE,pair_eta]
  ·have hr2:rightR (s2,l2)=false:=by simpa using hr2
   have hm:mulR (s,l) (s2,l2)=((0,[]),1):=by unfold mulR;rw[hr2,Bool.and_false];rfl
   rw[hm]
   simp only[go_sem,reduceIte,yA,yB,yC,yD,yE,yH,reduceCtorEq,yF,yG,yI,h_rRight,h_rtimes,h_rmade,h_rkept,hr,hr2,hl1,hl2,bigL,bigE,List.map_nil]
   repeat' (first|refine qqA ?_ ?_|refine qqB ?_ ?_|refine qqC ?_ ?_|refine qqD ?_ ?_|refine qqE ?_ ?_|refine qqF ?_ ?_)<;>intro h<;>simp only[h,go_sem,reduceIte,yA,yB,yC,yD,yE,yH,reduceCtorEq,yF,yG,yI,h_rRight,h_rtimes,h_rmade,h_rkept,hr,hr2,hl1,hl2,bigL,bigE,List.map_nil]
 ·have hr:rightR (s,l)=false:=by simpa using hr
  have hm:mulR (s,l) (s2,l2)=((0,[]),1):=by unfold mulR;rw[hr,Bool.false_and];rfl
  rw[hm]
  simp only[go_sem,reduceIte,yA,yB,yC,yD,yE,yH,reduceCtorEq,yF,yG,yI,h_rRight,h_rtimes,h_rmade,h_rkept,hr,hl1,hl2,bigL,bigE,List.map_nil]
  repeat' (first|refine qqA ?_ ?_|refine qqB ?_ ?_|refine qqC ?_ ?_|refine qqD ?_ ?_|refine qqE ?_ ?_|refine qqF ?_ ?_)<;>intro h<;>simp only[h,go_sem,reduceIte,yA,yB,yC,yD,yE,yH,reduceCtorEq,yF,yG,yI,h_rRight,h_rtimes,h_rmade,h_rkept,hr,hl1,hl2,bigL,bigE,List.map_nil]
end Go.Mini
namespace Go.Mini
open Go
set_option maxRecDepth 10000
set_option maxHeartbeats 4000000
noncomputable def F_rAdd:List Data→Option PRes:=FF (α:=Int × (List Int) × Int × (List Int)) (fun (s,l,s2,l2)=>([.agg [.int .i64 s,.sl (l.map i64L)],.agg [.int .i64 s2,.sl (l2.map i64L)]]:List Data)) (fun (s,l,s2,l2)=>onlyIf (l.length≤1000000∧l2.length≤1000000) (.same (bigE (addR (s,l) (s2,l2)))))
theorem F_rAdd_inj:∀ a b:Int × (List Int) × Int × (List Int),(fun (s,l,s2,l2)=>([.agg [.int .i64 s,.sl (l.map i64L)],.agg [.int .i64 s2,.sl (l2.map i64L)]]:List Data)) a=(fun (s,l,s2,l2)=>([.agg [.int .i64 s,.sl (l.map i64L)],.agg [.int .i64 s2,.sl (l2.map i64L)]]:List Data)) b→a=b:=by
  rintro⟨s1,l1,s21,l21⟩ ⟨s2,l2,s22,l22⟩ h
  simp only[yM,Data.agg.injEq,Data.int.injEq,Data.sl.injEq] at h;exact Prod.ext h.1.1.2 (Prod.ext (map_inj i64L_inj _ _ h.1.2.1) (Prod.ext h.2.1.1.2 (map_inj i64L_inj _ _ h.2.1.2.1)))
@[go_sem] theorem F_rAdd_eq (s:Int) (l:List Int) (s2:Int) (l2:List Int) (hc:l.length≤1000000∧l2.length≤1000000):F_rAdd [.agg [.int .i64 s,.sl (l.map i64L)],.agg [.int .i64 s2,.sl (l2.map i64L)]]=some (.same (bigE (addR (s,l) (s2,l2)))):=(FF_eq F_rAdd_inj (s,l,s2,l2)).trans (onlyIf_pos hc _)
theorem w_rAdd (T:Tab) (h_rRight:T id_ref04_Right=mkE F_rRight) (h_rplus:T id_ref04_plus=mkE F_rplus) (h_rless:T id_ref04_less=mkE F_rless) (h_rminus:T id_ref04_minus=mkE F_rminus) (h_rmade:T id_ref04_made=mkE F_rmade) (h_rkept:T id_ref04_kept=mkE F_rkept) (s:Int) (l:List Int) (s2:Int) (l2:List Int) (hc:l.length≤1000000∧l2.length≤1000000) :
  wp T mf_ref04_Add.body (endS mf_ref04_Add.res (.same (bigE (addR (s,l) (s2,l2))))) ⟨initTm [.dat (.agg [.int .i64 s,.sl (l.map i64L)]),.dat (.agg [.int .i64 s2,.sl (l2.map i64L)])],emp⟩:=by
 refine wp_start ?_
 simp only[mf_ref04_Add]
 obtain⟨hl1,hl2⟩:=hc
 by_cases hr:rightR (s,l)=true
 ·by_cases hr2:rightR (s2,l2)=true
  ·obtain⟨x,hx,e⟩:=(rightR_iff _).1 hr
   obtain⟨y,hy,e2⟩:=(rightR_iff _).1 hr2
   have hm:addR (s,l) (s2,l2)=keepB (x+y):=by rw[e,e2];exact addR_enc hx hy
   rw[hm]
   clear hm
   cases e
   cases e2
   have h1:=sign_abs x
   have h2:=sign_abs y
   have hlx:=lim_len hx
   have hly:=lim_len hy
   have hsx:=Int.sign_mul_natAbs x
   have hsy:=Int.sign_mul_natAbs y
   have tx:(x.sign=1∧0<x)∨(x.sign=0∧x=0)∨(x.sign = -1∧x<0):=by
    rcases Int.lt_trichotomy x 0 with h | h | h
    ·exact .inr (.inr ⟨Int.sign_eq_neg_one_of_neg h,h⟩)
    ·exact .inr (.inl ⟨by rw[h];rfl,h⟩)
    ·exact .inl ⟨Int.sign_eq_one_of_pos h,h⟩
   have ty:(y.sign=1∧0<y)∨(y.sign=0∧y=0)∨(y.sign = -1∧y<0):=by
    rcases Int.lt_trichotomy y 0 with h | h | h
    ·exact .inr (.inr ⟨Int.sign_eq_neg_one_of_neg h,h⟩)
    ·exact .inr (.inl ⟨by rw[h];rfl,h⟩)
    ·exact .inl ⟨Int.sign_eq_one_of_pos h,h⟩
   have hadd:=F_rplus_eq x.natAbs y.natAbs ⟨by omega,by omega⟩
   simp only[digs] at hadd
   have hlen:(dg (x.natAbs+y.natAbs)).length≤1000000:=by
    refine Nat.le_trans ((dg_len (k:=61)).2 ?_) (by omega)
    have:(1048576^61:Nat)=LIM*1048576:=by unfold LIM;rw[←Nat.pow_succ]
    omega
   have hcm:=F_rless_eq x.natAbs y.natAbs ⟨by omega,by omega⟩
   simp only[digs] at hcm
   by_cases hp:x.sign*y.sign≥0
   ·have hor:bits .or .i64 x.sign y.sign=orI [x.sign,y.sign]:=by
     rcases tx with ⟨e,_⟩ | ⟨e,_⟩ | ⟨e,_⟩<;>rcases ty with ⟨e',_⟩ | ⟨e',_⟩ | ⟨e',_⟩<;>rw[e,e'] at hp ⊢<;>first | rfl | exact absurd hp (by decide)
    have hs:signR (orI [x.sign,y.sign]) (dg (x.natAbs+y.natAbs))=encB (x+y):=by
     refine signR_enc ?_ ?_
     ·rcases tx with ⟨e,_⟩ | ⟨e,_⟩ | ⟨e,_⟩<;>rcases ty with ⟨e',_⟩ | ⟨e',_⟩ | ⟨e',_⟩<;>rw[e,e'] at hp<;>omega
     ·intro hn
      rcases tx with ⟨e,_⟩ | ⟨e,_⟩ | ⟨e,_⟩<;>rcases ty with ⟨e',_⟩ | ⟨e',_⟩ | ⟨e',_⟩<;>rw[e,e'] at hp ⊢
      ·exact (Int.sign_eq_one_of_pos (by omega)).symm
      ·exact (Int.sign_eq_one_of_pos (by omega)).symm
      ·omega
      ·exact (Int.sign_eq_one_of_pos (by omega)).symm
      ·omega
      ·exact (Int.sign_eq_neg_one_of_neg (by omega)).symm
      ·omega
      ·exact (Int.sign_eq_neg_one_of_neg (by omega)).symm
      ·exact (Int.sign_eq_neg_one_of_neg (by omega)).symm
    rcases c1:(x.sign==0)
    ·rcases c2:(y.sign==0)
     ·have c3:(x.sign==y.sign)=true:=by
       rw[beq_eq_false_iff_ne] at c1 c2
       rw[beq_iff_eq];rcases tx with ⟨e,_⟩ | ⟨e,_⟩ | ⟨e,_⟩<;>rcases ty with ⟨e',_⟩ | ⟨e',_⟩ | ⟨e',_⟩<;>rw[e,e'] at hp ⊢<;>omega
      simp only[go_sem,reduceIte,yA,yB,yC,yD,yE,yH,reduceCtorEq,yF,yG,yI,h_rRight,h_rplus,h_rless,h_rminus,h_rmade,h_rkept,hr,hr2,hl1,hl2,c1,c2,c3,hor,hadd,hlen,hs,check_enc,bigL,bigE,pair_eta]
      repeat' (first|refine qqA ?_ ?_|refine qqB ?_ ?_|refine qqC ?_ ?_|refine qqD ?_ ?_|refine qqE ?_ ?_|refine qqF ?_ ?_)<;>intro h<;>simp only[h,go_sem,reduceIte,yA,yB,yC,yD,yE,yH,reduceCtorEq,yF,yG,yI,h_rRight,h_rplus,h_rless,h_rminus,h_rmade,h_rkept,hr,hr2,hl1,hl2,c1,c2,c3,hor,hadd,hlen,hs,check_enc,bigL,bigE,pair_eta]
     ·simp only[go_sem,reduceIte,yA,yB,yC,yD,yE,yH,reduceCtorEq,yF,yG,yI,h_rRight,h_rplus,h_rless,h_rminus,h_rmade,h_rkept,hr,hr2,hl1,hl2,c1,c2,hor,hadd,hlen,hs,check_enc,bigL,bigE,pair_eta]
      repeat' (first|refine qqA ?_ ?_|refine qqB ?_ ?_|refine qqC ?_ ?_|refine qqD ?_ ?_|refine qqE ?_ ?_|refine qqF ?_ ?_)<;>intro h<;>simp only[h,go_sem,reduceIte,yA,yB,yC,yD,yE,yH,reduceCtorEq,yF,yG,yI,h_rRight,h_rplus,h_rless,h_rminus,h_rmade,h_rkept,hr,hr2,hl1,hl2,c1,c2,hor,hadd,hlen,hs,check_enc,bigL,bigE,pair_eta]
    ·simp only[go_sem,reduceIte,yA,yB,yC,yD,yE,yH,reduceCtorEq,yF,yG,yI,h_rRight,h_rplus,h_rless,h_rminus,h_rmade,h_rkept,hr,hr2,hl1,hl2,c1,hor,hadd,hlen,hs,check_enc,bigL,bigE,pair_eta]
     repeat' (first|refine qqA ?_ ?_|refine qqB ?_ ?_|refine qqC ?_ ?_|refine qqD ?_ ?_|refine qqE ?_ ?_|refine qqF ?_ ?_)<;>intro h<;>simp only[h,go_sem,reduceIte,yA,yB,yC,yD,yE,yH,reduceCtorEq,yF,yG,yI,h_rRight,h_rplus,h_rless,h_rminus,h_rmade,h_rkept,hr,hr2,hl1,hl2,c1,hor,hadd,hlen,hs,check_enc,bigL,bigE,pair_eta]
   ·have c1:(x.sign==0)=false:=by
     rw[beq_eq_false_iff_ne];rcases tx with ⟨e,_⟩ | ⟨e,_⟩ | ⟨e,_⟩<;>rw[e] at hp ⊢<;>omega
    have c2:(y.sign==0)=false:=by
     rw[beq_eq_false_iff_ne];rcases ty with ⟨e,_⟩ | ⟨e,_⟩ | ⟨e,_⟩<;>rw[e] at hp ⊢<;>omega
    have c3:(x.sign==y.sign)=false:=by
     rw[beq_eq_false_iff_ne];rcases tx with ⟨e,_⟩ | ⟨e,_⟩ | ⟨e,_⟩<;>rcases ty with ⟨e',_⟩ | ⟨e',_⟩ | ⟨e',_⟩<;>rw[e,e'] at hp ⊢<;>omega
    by_cases hlt:x.natAbs<y.natAbs
    ·have hcr:decide (x.natAbs<y.natAbs)=true:=decide_eq_true hlt
     have hsub:=F_rminus_eq y.natAbs x.natAbs ⟨by omega,by omega⟩
     simp only[digs] at hsub
     have hlen2:(dg (y.natAbs-x.natAbs)).length≤1000000:=Nat.le_trans (sub_len _ _) (by omega)
     have hs:signR y.sign (dg (y.natAbs-x.natAbs))=encB (x+y):=by
      refine signR_enc ?_ ?_
      ·rcases tx with ⟨e,_⟩ | ⟨e,_⟩ | ⟨e,_⟩<;>rcases ty with ⟨e',_⟩ | ⟨e',_⟩ | ⟨e',_⟩<;>rw[e,e'] at hp<;>omega
      ·intro hn
       rcases tx with ⟨e,_⟩ | ⟨e,_⟩ | ⟨e,_⟩<;>rcases ty with ⟨e',_⟩ | ⟨e',_⟩ | ⟨e',_⟩<;>rw[e,e'] at hp<;>rw[e']<;>first | omega | exact (Int.sign_eq_one_of_pos (by omega)).symm | exact (Int.sign_eq_neg_one_of_neg (by omega)).symm
     simp only[go_sem,reduceIte,yA,yB,yC,yD,yE,yH,reduceCtorEq,yF,yG,yI,h_rRight,h_rplus,h_rless,h_rminus,h_rmade,h_rkept,hr,hr2,hl1,hl2,c1,c2,c3,hcm,hcr,hsub,hlen2,hs,check_enc,bigL,bigE,pair_eta]
     repeat' (first|refine qqA ?_ ?_|refine qqB ?_ ?_|refine qqC ?_ ?_|refine qqD ?_ ?_|refine qqE ?_ ?_|refine qqF ?_ ?_)<;>intro h<;>simp only[h,go_sem,reduceIte,yA,yB,yC,yD,yE,yH,reduceCtorEq,yF,yG,yI,h_rRight,h_rplus,h_rless,h_rminus,h_rmade,h_rkept,hr,hr2,hl1,hl2,c1,c2,c3,hcm,hcr,hsub,hlen2,hs,check_enc,bigL,bigE,pair_eta]
    ·have hcr:decide (x.natAbs<y.natAbs)=false:=decide_eq_false hlt
     have hsub:=F_rminus_eq x.natAbs y.natAbs ⟨by omega,by omega⟩
     simp only[digs] at hsub
     have hlen2:(dg (x.natAbs-y.natAbs)).length≤1000000:=Nat.le_trans (sub_len _ _) (by omega)
     have hs:signR x.sign (dg (x.natAbs-y.natAbs))=encB (x+y):=by
      refine signR_enc ?_ ?_
      ·rcases tx with ⟨e,_⟩ | ⟨e,_⟩ | ⟨e,_⟩<;>rcases ty with ⟨e',_⟩ | ⟨e',_⟩ | ⟨e',_⟩<;>rw[e,e'] at hp<;>omega
      ·intro hn
       rcases tx with ⟨e,_⟩ | ⟨e,_⟩ | ⟨e,_⟩<;>rcases ty with ⟨e',_⟩ | ⟨e',_⟩ | ⟨e',_⟩<;>rw[e,e'] at hp<;>rw[e]<;>first | omega | exact (Int.sign_eq_one_of_pos (by omega)).symm | exact (Int.sign_eq_neg_one_of_neg (by omega)).symm
     simp only[go_sem,reduceIte,yA,yB,yC,yD,yE,yH,reduceCtorEq,yF,yG,yI,h_rRight,h_rplus,h_rless,h_rminus,h_rmade,h_rkept,hr,hr2,hl1,hl2,c1,c2,c3,hcm,hcr,hsub,hlen2,hs,check_enc,bigL,bigE,pair_eta]
     repeat' (first|refine qqA ?_ ?_|refine qqB ?_ ?_|refine qqC ?_ ?_|refine qqD ?_ ?_|refine qqE ?_ ?_|refine qqF ?_ ?_)<;>intro h<;>simp only[h,go_sem,reduceIte,yA,yB,yC,yD,yE,yH,reduceCtorEq,yF,yG,yI,h_rRight,h_rplus,h_rless,h_rminus,h_rmade,h_rkept,hr,hr2,hl1,hl2,c1,c2,c3,hcm,hcr,hsub,hlen2,hs,check_enc,bigL,bigE,pair_eta]
  ·have hr2:rightR (s2,l2)=false:=by simpa using hr2
   have hm:addR (s,l) (s2,l2)=((0,[]),1):=by unfold addR;rw[hr2,Bool.and_false];rfl
   rw[hm]
   simp only[go_sem,reduceIte,yA,yB,yC,yD,yE,yH,reduceCtorEq,yF,yG,yI,h_rRight,h_rplus,h_rless,h_rminus,h_rmade,h_rkept,hr,hr2,hl1,hl2,bigL,bigE,List.map_nil]
   repeat' (first|refine qqA ?_ ?_|refine qqB ?_ ?_|refine qqC ?_ ?_|refine qqD ?_ ?_|refine qqE ?_ ?_|refine qqF ?_ ?_)<;>intro h<;>simp only[h,go_sem,reduceIte,yA,yB,yC,yD,yE,yH,reduceCtorEq,yF,yG,yI,h_rRight,h_rplus,h_rless,h_rminus,h_rmade,h_rkept,hr,hr2,hl1,hl2,bigL,bigE,List.map_nil]
 ·have hr:rightR (s,l)=false:=by simpa using hr
  have hm:addR (s,l) (s2,l2)=((0,[]),1):=by unfold addR;rw[hr,Bool.false_and];rfl
  rw[hm]
  simp only[go_sem,reduceIte,yA,yB,yC,yD,yE,yH,reduceCtorEq,yF,yG,yI,h_rRight,h_rplus,h_rless,h_rminus,h_rmade,h_rkept,hr,hl1,hl2,bigL,bigE,List.map_nil]
  repeat' (first|refine qqA ?_ ?_|refine qqB ?_ ?_|refine qqC ?_ ?_|refine qqD ?_ ?_|refine qqE ?_ ?_|refine qqF ?_ ?_)<;>intro h<;>simp only[h,go_sem,reduceIte,yA,yB,yC,yD,yE,yH,reduceCtorEq,yF,yG,yI,h_rRight,h_rplus,h_rless,h_rminus,h_rmade,h_rkept,hr,hl1,hl2,bigL,bigE,List.map_nil]
theorem neg_len (b:Raw):(negR b).2.length≤60:=by
 unfold negR
 split
 ·rename_i h
  obtain⟨z,hz,e⟩:=(rightR_iff _).1 h
  rw[e,valB_enc]
  exact dg_len.2 (by rw[Int.natAbs_neg];exact hz)
 ·exact Nat.zero_le _
def subR (a b:Raw):Raw × Int:=if rightR b=true then addR a (negR b) else ((0,[]),1)
theorem negR_enc {z:Int} (h:z.natAbs<LIM):negR (encB z)=encB (-z):=by unfold negR;rw[if_pos (right_enc h),valB_enc]
theorem subR_enc {x y:Int} (hx:x.natAbs<LIM) (hy:y.natAbs<LIM):subR (encB x) (encB y)=keepB (x-y):=by
 unfold subR
 rw[if_pos (right_enc hy),negR_enc hy,addR_enc hx (by rw[Int.natAbs_neg];exact hy)]
 rfl
noncomputable def F_rSub:List Data→Option PRes:=FF (α:=Int × (List Int) × Int × (List Int)) (fun (s,l,s2,l2)=>([.agg [.int .i64 s,.sl (l.map i64L)],.agg [.int .i64 s2,.sl (l2.map i64L)]]:List Data)) (fun (s,l,s2,l2)=>onlyIf (l.length≤1000000∧l2.length≤1000000) (.same (bigE (subR (s,l) (s2,l2)))))
theorem F_rSub_inj:∀ a b:Int × (List Int) × Int × (List Int),(fun (s,l,s2,l2)=>([.agg [.int .i64 s,.sl (l.map i64L)],.agg [.int .i64 s2,.sl (l2.map i64L)]]:List Data)) a=(fun (s,l,s2,l2)=>([.agg [.int .i64 s,.sl (l.map i64L)],.agg [.int .i64 s2,.sl (l2.map i64L)]]:List Data)) b→a=b:=by
  rintro⟨s1,l1,s21,l21⟩ ⟨s2,l2,s22,l22⟩ h
  simp only[yM,Data.agg.injEq,Data.int.injEq,Data.sl.injEq] at h;exact Prod.ext h.1.1.2 (Prod.ext (map_inj i64L_inj _ _ h.1.2.1) (Prod.ext h.2.1.1.2 (map_inj i64L_inj _ _ h.2.1.2.1)))
@[go_sem] theorem F_rSub_eq (s:Int) (l:List Int) (s2:Int) (l2:List Int) (hc:l.length≤1000000∧l2.length≤1000000):F_rSub [.agg [.int .i64 s,.sl (l.map i64L)],.agg [.int .i64 s2,.sl (l2.map i64L)]]=some (.same (bigE (subR (s,l) (s2,l2)))):=(FF_eq F_rSub_inj (s,l,s2,l2)).trans (onlyIf_pos hc _)
theorem w_rSub (T:Tab) (h_rRight:T id_ref04_Right=mkE F_rRight) (h_rNeg:T id_ref04_Neg=mkE F_rNeg) (h_rAdd:T id_ref04_Add=mkE F_rAdd) (s:Int) (l:List Int) (s2:Int) (l2:List Int) (hc:l.length≤1000000∧l2.length≤1000000) :
  wp T mf_ref04_Sub.body (endS mf_ref04_Sub.res (.same (bigE (subR (s,l) (s2,l2))))) ⟨initTm [.dat (.agg [.int .i64 s,.sl (l.map i64L)]),.dat (.agg [.int .i64 s2,.sl (l2.map i64L)])],emp⟩:=by
 refine wp_start ?_
 simp only[mf_ref04_Sub]
 obtain⟨hl1,hl2⟩:=hc
 unfold subR
 by_cases hr2:rightR (s2,l2)=true
 ·rw[if_pos hr2]
  have hnl:=neg_len (s2,l2)
  rcases hn:negR (s2,l2) with ⟨s3,l3⟩
  rw[hn] at hnl
  dsimp only at hnl
  have hnl':l3.length≤1000000:=by omega
  simp only[go_sem,reduceIte,yA,yB,yC,yD,yE,yH,reduceCtorEq,yF,yG,yI,h_rRight,h_rNeg,h_rAdd,hr2,hl1,hl2,hn,hnl',bigL,bigE]
  repeat' (first|refine qqA ?_ ?_|refine qqB ?_ ?_|refine qqC ?_ ?_|refine qqD ?_ ?_|refine qqE ?_ ?_|refine qqF ?_ ?_)<;>intro h<;>simp only[h,go_sem,reduceIte,yA,yB,yC,yD,yE,yH,reduceCtorEq,yF,yG,yI,h_rRight,h_rNeg,h_rAdd,hr2,hl1,hl2,hn,hnl',bigL,bigE]
 ·have hr2:rightR (s2,l2)=false:=by simpa using hr2
  simp only[go_sem,reduceIte,yA,yB,yC,yD,yE,yH,reduceCtorEq,yF,yG,yI,h_rRight,h_rNeg,h_rAdd,hr2,hl2,bigL,bigE,List.map_nil]
  repeat' (first|refine qqA ?_ ?_|refine qqB ?_ ?_|refine qqC ?_ ?_|refine qqD ?_ ?_|refine qqE ?_ ?_|refine qqF ?_ ?_)<;>intro h<;>simp only[h,go_sem,reduceIte,yA,yB,yC,yD,yE,yH,reduceCtorEq,yF,yG,yI,h_rRight,h_rNeg,h_rAdd,hr2,hl2,bigL,bigE,List.map_nil]
end Go.Mini
namespace Go.Mini
open Go
set_option maxRecDepth 10000
set_option maxHeartbeats 4000000
noncomputable def F_rDiv:List Data→Option PRes:=FF (α:=Int × (List Int) × Int × (List Int)) (fun (s,l,s2,l2)=>([.agg [.int .i64 s,.sl (l.map i64L)],.agg [.int .i64 s2,.sl (l2.map i64L)]]:List Data)) (fun (s,l,s2,l2)=>onlyIf (l.length≤1000000∧l2.length≤1000000) (.same (bigE2 (divR (s,l) (s2,l2)))))
theorem F_rDiv_inj:∀ a b:Int × (List Int) × Int × (List Int),(fun (s,l,s2,l2)=>([.agg [.int .i64 s,.sl (l.map i64L)],.agg [.int .i64 s2,.sl (l2.map i64L)]]:List Data)) a=(fun (s,l,s2,l2)=>([.agg [.int .i64 s,.sl (l.map i64L)],.agg [.int .i64 s2,.sl (l2.map i64L)]]:List Data)) b→a=b:=by
  rintro⟨s1,l1,s21,l21⟩ ⟨s2,l2,s22,l22⟩ h
  simp only[yM,Data.agg.injEq,Data.int.injEq,Data.sl.injEq] at h;exact Prod.ext h.1.1.2 (Prod.ext (map_inj i64L_inj _ _ h.1.2.1) (Prod.ext h.2.1.1.2 (map_inj i64L_inj _ _ h.2.1.2.1)))
@[go_sem] theorem F_rDiv_eq (s:Int) (l:List Int) (s2:Int) (l2:List Int) (hc:l.length≤1000000∧l2.length≤1000000):F_rDiv [.agg [.int .i64 s,.sl (l.map i64L)],.agg [.int .i64 s2,.sl (l2.map i64L)]]=some (.same (bigE2 (divR (s,l) (s2,l2)))):=(FF_eq F_rDiv_inj (s,l,s2,l2)).trans (onlyIf_pos hc _)
theorem w_rDiv (T:Tab) (h_rRight:T id_ref04_Right=mkE F_rRight) (h_rover:T id_ref04_over=mkE F_rover) (h_rplus:T id_ref04_plus=mkE F_rplus) (h_rminus:T id_ref04_minus=mkE F_rminus) (h_rmade:T id_ref04_made=mkE F_rmade) (s:Int) (l:List Int) (s2:Int) (l2:List Int) (hc:l.length≤1000000∧l2.length≤1000000) :
  wp T mf_ref04_Div.body (endS mf_ref04_Div.res (.same (bigE2 (divR (s,l) (s2,l2))))) ⟨initTm [.dat (.agg [.int .i64 s,.sl (l.map i64L)]),.dat (.agg [.int .i64 s2,.sl (l2.map i64L)])],emp⟩:=by
 refine wp_start ?_
 simp only[mf_ref04_Div]
 obtain⟨hl1,hl2⟩:=hc
 by_cases hr:rightR (s,l)=true
 ·by_cases hr2:rightR (s2,l2)=true
  ·obtain⟨x,hx,e⟩:=(rightR_iff _).1 hr
   obtain⟨y,hy,e2⟩:=(rightR_iff _).1 hr2
   by_cases hy0:y=0
   ·have hm:divR (s,l) (s2,l2)=((0,[]),(0,[]),15):=by
     rw[e,e2];unfold divR
     rw[right_enc hx,right_enc hy,valB_enc,valB_enc,if_pos (by rfl),if_pos hy0]
    rw[hm]
    cases e
    cases e2
    have h0:((y.sign:Int)==0)=true:=by rw[hy0];rfl
    simp only[go_sem,reduceIte,yA,yB,yC,yD,yE,yH,reduceCtorEq,yF,yG,yI,h_rRight,h_rover,h_rplus,h_rminus,h_rmade,hr,hr2,hl1,hl2,h0,bigL,bigE2,List.map_nil]
    repeat' (first|refine qqA ?_ ?_|refine qqB ?_ ?_|refine qqC ?_ ?_|refine qqD ?_ ?_|refine qqE ?_ ?_|refine qqF ?_ ?_)<;>intro h<;>simp only[h,go_sem,reduceIte,yA,yB,yC,yD,yE,yH,reduceCtorEq,yF,yG,yI,h_rRight,h_rover,h_rplus,h_rminus,h_rmade,hr,hr2,hl1,hl2,h0,bigL,bigE2,List.map_nil]
   ·have hm:divR (s,l) (s2,l2)=(encB (x.fdiv y),encB (x.fmod y),0):=by
     rw[e,e2];exact divR_enc hx hy hy0
    rw[hm]
    clear hm
    cases e
    cases e2
    have hlx:=lim_len hx
    have hly:=lim_len hy
    have hy0':(y.sign==0)=false:=by rw[beq_eq_false_iff_ne,Ne,Int.sign_eq_zero_iff_zero];exact hy0
    have hypos:0<y.natAbs:=by omega
    have h1:=sign_abs x
    have h2:=sign_abs y
    have hp:x.sign*y.sign=(x*y).sign:=(Int.sign_mul x y).symm
    have h3:=sign_abs (x*y)
    have hw:IntKind.i64.wrap (x.sign*y.sign)=x.sign*y.sign:=by rw[hp];exact wrap64 _ (by omega) (by omega)
    have hdiv:=F_rover_eq x.natAbs y.natAbs ⟨by omega,by omega,hypos⟩
    simp only[digs] at hdiv
    have hq:=fdiv_lim (y:=y) hx hy0
    have hr3:=fmod_lim (x:=x) hy hy0
    have hlq:x.natAbs / y.natAbs<LIM:=Nat.lt_of_le_of_lt (Nat.div_le_self _ _) hx
    have hlq':(dg (x.natAbs / y.natAbs)).length≤60:=dg_len.2 hlq
    have hlr:x.natAbs % y.natAbs<LIM:=Nat.lt_trans (Nat.mod_lt _ hypos) hy
    have hlr':(dg (x.natAbs % y.natAbs)).length≤60:=dg_len.2 hlr
    by_cases hlow:x.sign*y.sign<0∧x.natAbs % y.natAbs≠0
    ·obtain⟨eq,er⟩:=floor_low hlow.1 hlow.2
     have hne:(((dg (x.natAbs % y.natAbs)).length:Int)==0)=false:=by
      have:dg (x.natAbs % y.natAbs)≠[]:=by rw[Ne,dg_nil];exact hlow.2
      have:=List.length_pos_iff.2 this
      rw[beq_eq_false_iff_ne];omega
     have hneg:decide (x.sign*y.sign≥0)=false:=decide_eq_false (by have:=hlow.1;omega)
     have hd1:dg 1=[1]:=by simp [dg,dgF]
     have hl1d:(dg 1).length=1:=by rw[hd1];rfl
     have hadd:=F_rplus_eq (x.natAbs / y.natAbs) 1 ⟨by omega,by omega⟩
     simp only[digs,hd1,List.map_cons,List.map_nil,i64L] at hadd
     have hsub:=F_rminus_eq y.natAbs (x.natAbs % y.natAbs) ⟨by omega,by omega,Nat.le_of_lt (Nat.mod_lt _ hypos)⟩
     simp only[digs] at hsub
     have hla:(dg (x.natAbs / y.natAbs+1)).length≤1000000:=by
      have:(x.natAbs / y.natAbs+1)<LIM:=by rw[eq] at hq;rw[Int.natAbs_neg,Int.natAbs_natCast] at hq;exact hq
      have:=(dg_len (k:=60)).2 this
      omega
     have hlb:(dg (y.natAbs-x.natAbs % y.natAbs)).length≤1000000:=by have:=sub_len y.natAbs (x.natAbs % y.natAbs);omega
     have hs1:signR (-1) (dg (x.natAbs / y.natAbs+1))=encB (x.fdiv y):=signR_enc (by rw[eq,Int.natAbs_neg,Int.natAbs_natCast]) fun _=>by rw[eq,Int.sign_neg,Int.sign_eq_one_of_pos (show (0:Int)<((x.natAbs / y.natAbs+1:Nat):Int) by exact Int.natCast_pos.2 (Nat.succ_pos _))]
     have hs2:signR y.sign (dg (y.natAbs-x.natAbs % y.natAbs))=encB (x.fmod y):=by
      refine signR_enc ?_ fun hn=>?_
      ·rw[er];rcases sign_tri y with ⟨e',h3⟩ | ⟨e',h3⟩ | ⟨e',h3⟩<;>rw[e']<;>omega
      ·rw[er,Int.sign_mul,Int.sign_sign,Int.sign_eq_one_of_pos (show (0:Int)<((y.natAbs-x.natAbs % y.natAbs:Nat):Int) by omega),Int.mul_one]
     simp only[go_sem,reduceIte,yA,yB,yC,yD,yE,yH,reduceCtorEq,yF,yG,yI,h_rRight,h_rover,h_rplus,h_rminus,h_rmade,hr,hr2,hl1,hl2,hy0',hw,hdiv,hne,hneg,hadd,hsub,hla,hlb,hs1,hs2,i64L,yJ,bigL,bigE2,pair_eta]
     repeat' (first|refine qqA ?_ ?_|refine qqB ?_ ?_|refine qqC ?_ ?_|refine qqD ?_ ?_|refine qqE ?_ ?_|refine qqF ?_ ?_)<;>intro h<;>simp only[h,go_sem,reduceIte,yA,yB,yC,yD,yE,yH,reduceCtorEq,yF,yG,yI,h_rRight,h_rover,h_rplus,h_rminus,h_rmade,hr,hr2,hl1,hl2,hy0',hw,hdiv,hne,hneg,hadd,hsub,hla,hlb,hs1,hs2,i64L,yJ,bigL,bigE2,pair_eta]
    ·obtain⟨eq,er⟩:=floor_plain hy0 hlow
     have hlow':(decide (x.sign*y.sign≥0)=false∧(((dg (x.natAbs % y.natAbs)).length:Int)==0)=true)∨decide (x.sign*y.sign≥0)=true:=by
      by_cases hn:x.sign*y.sign<0
      ·left
       have:x.natAbs % y.natAbs=0:=Decidable.not_not.1 fun h=>hlow ⟨hn,h⟩
       rw[this];exact⟨decide_eq_false (by omega),rfl⟩
      ·right;exact decide_eq_true (by omega)
     have hla:(dg (x.natAbs / y.natAbs)).length≤1000000:=by omega
     have hlb:(dg (x.natAbs % y.natAbs)).length≤1000000:=by omega
     have hs1:signR (x.sign*y.sign) (dg (x.natAbs / y.natAbs))=encB (x.fdiv y):=by
      refine signR_enc ?_ fun hn=>?_
      ·rw[eq]
       have hgen:∀ Q:Nat,(x=0→Q=0)→(x.sign*y.sign*(Q:Int)).natAbs=Q:=by
        intro Q h0
        rcases sign_tri x with ⟨e,h1⟩ | ⟨e,h1⟩ | ⟨e,h1⟩<;>rcases sign_tri y with ⟨e',h3⟩ | ⟨e',h3⟩ | ⟨e',h3⟩<;>rw[e,e']<;>first | omega | (rw[h0 h1];rfl)
       exact hgen _ fun h0=>by rw[h0];exact Nat.zero_div _
      ·rw[eq,hp,Int.sign_mul,Int.sign_mul,Int.sign_mul,Int.sign_sign,Int.sign_sign,Int.sign_eq_one_of_pos (show (0:Int)<((x.natAbs / y.natAbs:Nat):Int) from Int.natCast_pos.2 (Nat.pos_of_ne_zero hn)),Int.mul_one]
     have hs2:signR x.sign (dg (x.natAbs % y.natAbs))=encB (x.fmod y):=by
      refine signR_enc ?_ fun hn=>?_
      ·rw[er]
       have hgen:∀ Q:Nat,(x=0→Q=0)→(x.sign*(Q:Int)).natAbs=Q:=by
        intro Q h0
        rcases sign_tri x with ⟨e,h1⟩ | ⟨e,h1⟩ | ⟨e,h1⟩<;>rw[e]<;>first | omega | (rw[h0 h1];rfl)
       exact hgen _ fun h0=>by rw[h0];exact Nat.zero_mod _
      ·rw[er,Int.sign_mul,Int.sign_sign,Int.sign_eq_one_of_pos (show (0:Int)<((x.natAbs % y.natAbs:Nat):Int) from Int.natCast_pos.2 (Nat.pos_of_ne_zero hn)),Int.mul_one]
     rcases hlow' with ⟨hlow1,hlow2⟩ | hlow1
     ·simp only[go_sem,reduceIte,yA,yB,yC,yD,yE,yH,reduceCtorEq,yF,yG,yI,h_rRight,h_rover,h_rplus,h_rminus,h_rmade,hr,hr2,hl1,hl2,hy0',hw,hdiv,hlow1,hlow2,hla,hlb,hs1,hs2,i64L,yJ,bigL,bigE2,pair_eta]
      repeat' (first|refine qqA ?_ ?_|refine qqB ?_ ?_|refine qqC ?_ ?_|refine qqD ?_ ?_|refine qqE ?_ ?_|refine qqF ?_ ?_)<;>intro h<;>simp only[h,go_sem,reduceIte,yA,yB,yC,yD,yE,yH,reduceCtorEq,yF,yG,yI,h_rRight,h_rover,h_rplus,h_rminus,h_rmade,hr,hr2,hl1,hl2,hy0',hw,hdiv,hlow1,hlow2,hla,hlb,hs1,hs2,i64L,yJ,bigL,bigE2,pair_eta]
     ·simp only[go_sem,reduceIte,yA,yB,yC,yD,yE,yH,reduceCtorEq,yF,yG,yI,h_rRight,h_rover,h_rplus,h_rminus,h_rmade,hr,hr2,hl1,hl2,hy0',hw,hdiv,hlow1,hla,hlb,hs1,hs2,i64L,yJ,bigL,bigE2,pair_eta]
      repeat' (first|refine qqA ?_ ?_|refine qqB ?_ ?_|refine qqC ?_ ?_|refine qqD ?_ ?_|refine qqE ?_ ?_|refine qqF ?_ ?_)<;>intro h<;>simp only[h,go_sem,reduceIte,yA,yB,yC,yD,yE,yH,reduceCtorEq,yF,yG,yI,h_rRight,h_rover,h_rplus,h_rminus,h_rmade,hr,hr2,hl1,hl2,hy0',hw,hdiv,hlow1,hla,hlb,hs1,hs2,i64L,yJ,bigL,bigE2,pair_eta]
  ·have hr2:rightR (s2,l2)=false:=by simpa using hr2
   have hm:divR (s,l) (s2,l2)=((0,[]),(0,[]),1):=by unfold divR;rw[hr2,Bool.and_false];rfl
   rw[hm]
   simp only[go_sem,reduceIte,yA,yB,yC,yD,yE,yH,reduceCtorEq,yF,yG,yI,h_rRight,h_rover,h_rplus,h_rminus,h_rmade,hr,hr2,hl1,hl2,bigL,bigE2,List.map_nil]
   repeat' (first|refine qqA ?_ ?_|refine qqB ?_ ?_|refine qqC ?_ ?_|refine qqD ?_ ?_|refine qqE ?_ ?_|refine qqF ?_ ?_)<;>intro h<;>simp only[h,go_sem,reduceIte,yA,yB,yC,yD,yE,yH,reduceCtorEq,yF,yG,yI,h_rRight,h_rover,h_rplus,h_rminus,h_rmade,hr,hr2,hl1,hl2,bigL,bigE2,List.map_nil]
 ·have hr:rightR (s,l)=false:=by simpa using hr
  have hm:divR (s,l) (s2,l2)=((0,[]),(0,[]),1):=by unfold divR;rw[hr,Bool.false_and];rfl
  rw[hm]
  simp only[go_sem,reduceIte,yA,yB,yC,yD,yE,yH,reduceCtorEq,yF,yG,yI,h_rRight,h_rover,h_rplus,h_rminus,h_rmade,hr,hl1,hl2,bigL,bigE2,List.map_nil]
  repeat' (first|refine qqA ?_ ?_|refine qqB ?_ ?_|refine qqC ?_ ?_|refine qqD ?_ ?_|refine qqE ?_ ?_|refine qqF ?_ ?_)<;>intro h<;>simp only[h,go_sem,reduceIte,yA,yB,yC,yD,yE,yH,reduceCtorEq,yF,yG,yI,h_rRight,h_rover,h_rplus,h_rminus,h_rmade,hr,hl1,hl2,bigL,bigE2,List.map_nil]
end Go.Mini
namespace Go.Mini
open Go
def mf_ref05_Few:MFunc :=
 { n:=19,np:=2,res:=[.t 4],body :=
 (.seq (.ops [
 ⟨some 2,none,.box 115002 (.t 0)⟩,⟨some 4,none,.mv (.c (.dat (.bool false)))⟩])
 (.seq (.ops [
 ⟨some 5,none,.fad 0 (.t 2)⟩,⟨some 6,none,.fad 1 (.t 5)⟩,⟨some 7,none,.load 1 false (.t 6)⟩,⟨some 8,none,.len (.t 7)⟩,⟨some 9,none,.mv (.t 1)⟩,⟨some 10,none,.bin .leq (.t 8) (.t 9)⟩,⟨some 11,none,.mv (.t 10)⟩,⟨some 12,some (11,true),.fad 2 (.t 2)⟩,⟨some 13,some (11,true),.fad 1 (.t 12)⟩,⟨some 14,some (11,true),.load 1 false (.t 13)⟩,⟨some 15,some (11,true),.len (.t 14)⟩,⟨some 16,some (11,true),.mv (.t 1)⟩,⟨some 17,some (11,true),.bin .leq (.t 15) (.t 16)⟩,⟨some 18,none,.pick (.t 11) (.t 17) (.c (.dat (.bool false)))⟩,⟨some 4,none,.mv (.t 18)⟩])
 .ret)) }
def mf_ref05_Same:MFunc :=
 { n:=17,np:=2,res:=[.t 4],body :=
 (.seq (.ops [
 ⟨some 2,none,.box 120002 (.t 0)⟩,⟨some 3,none,.box 120003 (.t 1)⟩,⟨some 4,none,.mv (.c (.dat (.bool false)))⟩])
 (.seq (.ops [
 ⟨some 5,none,.fad 0 (.t 2)⟩,⟨some 6,none,.load 2 true (.t 5)⟩,⟨some 7,none,.fad 0 (.t 3)⟩,⟨some 8,none,.load 2 true (.t 7)⟩,⟨some 9,none,.call id_ref05_SameBig [(.t 6),(.t 8)]⟩,⟨some 10,none,.mv (.t 9)⟩,⟨some 11,some (10,true),.fad 2 (.t 2)⟩,⟨some 12,some (10,true),.load 2 true (.t 11)⟩,⟨some 13,some (10,true),.fad 2 (.t 3)⟩,⟨some 14,some (10,true),.load 2 true (.t 13)⟩,⟨some 15,some (10,true),.call id_ref05_SameBig [(.t 12),(.t 14)]⟩,⟨some 16,none,.pick (.t 10) (.t 15) (.c (.dat (.bool false)))⟩,⟨some 4,none,.mv (.t 16)⟩])
 .ret)) }
def mf_ref05_Of:MFunc :=
 { n:=13,np:=2,res:=[.cell 4 4 true,.t 5],body :=
 (.seq (.ops [
 ⟨some 4,none,.alloc 124004 [(.dat (.int .i64 0)),.nil,(.dat (.int .i64 0)),.nil]⟩,⟨some 5,none,.mv (.c (.dat (.int .i64 0)))⟩])
 (.seq (.ops [
 ⟨some 6,none,.mv (.t 0)⟩,⟨some 7,none,.call id_ref04_Of [(.t 6)]⟩,⟨some 8,none,.mv (.t 1)⟩,⟨some 9,none,.call id_ref04_Of [(.t 8)]⟩,⟨some 10,none,.call id_ref05_New [(.t 7),(.t 9)]⟩,⟨some 11,none,.ext 0 (.t 10)⟩,⟨some 12,none,.ext 1 (.t 10)⟩,⟨none,none,.store 4 (.t 4) (.t 11)⟩,⟨some 5,none,.mv (.t 12)⟩])
 .ret)) }
def mf_ref05_SameBig:MFunc :=
 { n:=38,np:=2,res:=[.t 4],body :=
 (.seq (.ops [
 ⟨some 2,none,.box 142002 (.t 0)⟩,⟨some 3,none,.box 142003 (.t 1)⟩,⟨some 4,none,.mv (.c (.dat (.bool false)))⟩])
 (.seq (.seq (.ops [
 ⟨some 6,none,.fad 0 (.t 2)⟩,⟨some 7,none,.load 1 false (.t 6)⟩,⟨some 8,none,.fad 0 (.t 3)⟩,⟨some 9,none,.load 1 false (.t 8)⟩,⟨some 10,none,.bin .neq (.t 7) (.t 9)⟩,⟨some 11,none,.mv (.t 10)⟩,⟨some 12,some (11,false),.fad 1 (.t 2)⟩,⟨some 13,some (11,false),.load 1 false (.t 12)⟩,⟨some 14,some (11,false),.len (.t 13)⟩,⟨some 15,some (11,false),.fad 1 (.t 3)⟩,⟨some 16,some (11,false),.load 1 false (.t 15)⟩,⟨some 17,some (11,false),.len (.t 16)⟩,⟨some 18,some (11,false),.bin .neq (.t 14) (.t 17)⟩,⟨some 19,none,.pick (.t 11) (.c (.dat (.bool true))) (.t 18)⟩])
 (.cond (.t 19)
 (.seq (.ops [
 ⟨some 4,none,.mv (.c (.dat (.bool false)))⟩])
 .ret)
 .skip))
 (.seq (.seq (.ops [
 ⟨some 5,none,.mv (.c (.dat (.int .i64 0)))⟩])
 (.block 0
 (.loop
 (.seq (.seq (.ops [
 ⟨some 20,none,.mv (.t 5)⟩,⟨some 21,none,.fad 1 (.t 2)⟩,⟨some 22,none,.load 1 false (.t 21)⟩,⟨some 23,none,.len (.t 22)⟩,⟨some 24,none,.bin .lss (.t 20) (.t 23)⟩])
 (.cond (.t 24)
 .skip
 (.exit 0)))
 (.seq (.block 1
 (.seq (.opsD [
 ⟨some 27,none,.fad 1 (.t 2)⟩,⟨some 28,none,.load 1 false (.t 27)⟩,⟨some 29,none,.mv (.t 5)⟩,⟨some 30,none,.iad 1 (.t 28) (.t 29)⟩,⟨some 31,none,.load 1 false (.t 30)⟩,⟨some 32,none,.fad 1 (.t 3)⟩,⟨some 33,none,.load 1 false (.t 32)⟩,⟨some 34,none,.mv (.t 5)⟩,⟨some 35,none,.iad 1 (.t 33) (.t 34)⟩,⟨some 36,none,.load 1 false (.t 35)⟩,⟨some 37,none,.bin .neq (.t 31) (.t 36)⟩] [[],[],[],[],[],[],[],[],[],[],[]])
 (.cond (.t 37)
 (.seq (.ops [
 ⟨some 4,none,.mv (.c (.dat (.bool false)))⟩])
 .ret)
 .skip)))
 (.ops [
 ⟨some 25,none,.mv (.t 5)⟩,⟨some 26,none,.bin .add (.t 25) (.c (.dat (.int .i64 1)))⟩,⟨some 5,none,.mv (.t 26)⟩]))))))
 (.seq (.ops [
 ⟨some 4,none,.mv (.c (.dat (.bool true)))⟩])
 .ret)))) }
def mf_ref05_New:MFunc :=
 { n:=57,np:=2,res:=[.cell 4 4 true,.t 5],body :=
 (.seq (.ops [
 ⟨some 2,none,.box 143002 (.t 0)⟩,⟨some 3,none,.box 143003 (.t 1)⟩,⟨some 4,none,.alloc 143004 [(.dat (.int .i64 0)),.nil,(.dat (.int .i64 0)),.nil]⟩,⟨some 5,none,.mv (.c (.dat (.int .i64 0)))⟩])
 (.seq (.seq (.ops [
 ⟨some 14,none,.load 2 true (.t 2)⟩,⟨some 15,none,.call id_ref04_Right [(.t 14)]⟩,⟨some 16,none,.un .not (.t 15)⟩,⟨some 17,none,.mv (.t 16)⟩,⟨some 18,some (17,false),.load 2 true (.t 3)⟩,⟨some 19,some (17,false),.call id_ref04_Right [(.t 18)]⟩,⟨some 20,some (17,false),.un .not (.t 19)⟩,⟨some 21,none,.pick (.t 17) (.c (.dat (.bool true))) (.t 20)⟩])
 (.cond (.t 21)
 (.seq (.ops [
 ⟨some 22,none,.build [(.dat (.int .i64 0)),.nil,(.dat (.int .i64 0)),.nil] []⟩,⟨none,none,.store 4 (.t 4) (.t 22)⟩,⟨some 5,none,.mv (.c (.dat (.int .i64 1)))⟩])
 .ret)
 .skip))
 (.seq (.seq (.ops [
 ⟨some 23,none,.fad 0 (.t 3)⟩,⟨some 24,none,.load 1 false (.t 23)⟩,⟨some 25,none,.bin .eql (.t 24) (.c (.dat (.int .i64 0)))⟩])
 (.cond (.t 25)
 (.seq (.ops [
 ⟨some 26,none,.build [(.dat (.int .i64 0)),.nil,(.dat (.int .i64 0)),.nil] []⟩,⟨none,none,.store 4 (.t 4) (.t 26)⟩,⟨some 5,none,.mv (.c (.dat (.int .i64 15)))⟩])
 .ret)
 .skip))
 (.seq (.seq (.ops [
 ⟨some 27,none,.fad 0 (.t 3)⟩,⟨some 28,none,.load 1 false (.t 27)⟩,⟨some 29,none,.bin .lss (.t 28) (.c (.dat (.int .i64 0)))⟩])
 (.cond (.t 29)
 (.seq (.ops [
 ⟨some 30,none,.load 2 true (.t 2)⟩,⟨some 31,none,.call id_ref04_Neg [(.t 30)]⟩,⟨none,none,.store 2 (.t 2) (.t 31)⟩])
 (.ops [
 ⟨some 32,none,.load 2 true (.t 3)⟩,⟨some 33,none,.call id_ref04_Neg [(.t 32)]⟩,⟨none,none,.store 2 (.t 3) (.t 33)⟩]))
 .skip))
 (.seq (.ops [
 ⟨some 35,none,.load 2 true (.t 2)⟩,⟨some 36,none,.load 2 true (.t 3)⟩,⟨some 37,none,.call id_ref04_Gcd [(.t 35),(.t 36)]⟩,⟨some 34,none,.mv (.t 37)⟩,⟨some 38,none,.ext 0 (.t 34)⟩,⟨some 39,none,.ext 1 (.t 34)⟩,⟨some 6,none,.alloc 143006 [(.dat (.int .i64 0)),.nil]⟩,⟨none,none,.store 2 (.t 6) (.t 38)⟩,⟨some 7,none,.mv (.t 39)⟩])
 (.seq (.ops [
 ⟨some 41,none,.load 2 true (.t 2)⟩,⟨some 42,none,.load 2 true (.t 6)⟩,⟨some 43,none,.call id_ref04_Div [(.t 41),(.t 42)]⟩,⟨some 40,none,.mv (.t 43)⟩,⟨some 44,none,.ext 0 (.t 40)⟩,⟨some 45,none,.ext 1 (.t 40)⟩,⟨some 46,none,.ext 2 (.t 40)⟩,⟨some 8,none,.alloc 143008 [(.dat (.int .i64 0)),.nil]⟩,⟨some 9,none,.alloc 143009 [(.dat (.int .i64 0)),.nil]⟩,⟨none,none,.store 2 (.t 8) (.t 44)⟩,⟨none,none,.store 2 (.t 9) (.t 45)⟩,⟨some 10,none,.mv (.t 46)⟩])
 (.seq (.ops [
 ⟨some 48,none,.load 2 true (.t 3)⟩,⟨some 49,none,.load 2 true (.t 6)⟩,⟨some 50,none,.call id_ref04_Div [(.t 48),(.t 49)]⟩,⟨some 47,none,.mv (.t 50)⟩,⟨some 51,none,.ext 0 (.t 47)⟩,⟨some 52,none,.ext 1 (.t 47)⟩,⟨some 53,none,.ext 2 (.t 47)⟩,⟨some 11,none,.alloc 143011 [(.dat (.int .i64 0)),.nil]⟩,⟨some 12,none,.alloc 143012 [(.dat (.int .i64 0)),.nil]⟩,⟨none,none,.store 2 (.t 11) (.t 51)⟩,⟨none,none,.store 2 (.t 12) (.t 52)⟩,⟨some 13,none,.mv (.t 53)⟩])
 (.seq (.ops [
 ⟨some 54,none,.load 2 true (.t 8)⟩,⟨some 55,none,.load 2 true (.t 11)⟩,⟨some 56,none,.build [(.dat (.int .i64 0)),.nil,(.dat (.int .i64 0)),.nil] [(0,2,(.t 54)),(2,2,(.t 55))]⟩,⟨none,none,.store 4 (.t 4) (.t 56)⟩,⟨some 5,none,.mv (.c (.dat (.int .i64 0)))⟩])
 .ret)))))))) }
def mf_ref05_Sub:MFunc :=
 { n:=72,np:=2,res:=[.cell 4 4 true,.t 5],body :=
 (.seq (.ops [
 ⟨some 2,none,.box 195002 (.t 0)⟩,⟨some 3,none,.box 195003 (.t 1)⟩,⟨some 4,none,.alloc 195004 [(.dat (.int .i64 0)),.nil,(.dat (.int .i64 0)),.nil]⟩,⟨some 5,none,.mv (.c (.dat (.int .i64 0)))⟩])
 (.seq (.seq (.ops [
 ⟨some 14,none,.load 4 true (.t 2)⟩,⟨some 15,none,.call id_ref05_Right [(.t 14)]⟩,⟨some 16,none,.un .not (.t 15)⟩,⟨some 17,none,.mv (.t 16)⟩,⟨some 18,some (17,false),.load 4 true (.t 3)⟩,⟨some 19,some (17,false),.call id_ref05_Right [(.t 18)]⟩,⟨some 20,some (17,false),.un .not (.t 19)⟩,⟨some 21,none,.pick (.t 17) (.c (.dat (.bool true))) (.t 20)⟩])
 (.cond (.t 21)
 (.seq (.ops [
 ⟨some 22,none,.build [(.dat (.int .i64 0)),.nil,(.dat (.int .i64 0)),.nil] []⟩,⟨none,none,.store 4 (.t 4) (.t 22)⟩,⟨some 5,none,.mv (.c (.dat (.int .i64 1)))⟩])
 .ret)
 .skip))
 (.seq (.ops [
 ⟨some 24,none,.fad 0 (.t 2)⟩,⟨some 25,none,.load 2 true (.t 24)⟩,⟨some 26,none,.fad 2 (.t 3)⟩,⟨some 27,none,.load 2 true (.t 26)⟩,⟨some 28,none,.call id_ref04_Mul [(.t 25),(.t 27)]⟩,⟨some 23,none,.mv (.t 28)⟩,⟨some 29,none,.ext 0 (.t 23)⟩,⟨some 30,none,.ext 1 (.t 23)⟩,⟨some 6,none,.alloc 195006 [(.dat (.int .i64 0)),.nil]⟩,⟨none,none,.store 2 (.t 6) (.t 29)⟩,⟨some 7,none,.mv (.t 30)⟩])
 (.seq (.ops [
 ⟨some 32,none,.fad 0 (.t 3)⟩,⟨some 33,none,.load 2 true (.t 32)⟩,⟨some 34,none,.fad 2 (.t 2)⟩,⟨some 35,none,.load 2 true (.t 34)⟩,⟨some 36,none,.call id_ref04_Mul [(.t 33),(.t 35)]⟩,⟨some 31,none,.mv (.t 36)⟩,⟨some 37,none,.ext 0 (.t 31)⟩,⟨some 38,none,.ext 1 (.t 31)⟩,⟨some 8,none,.alloc 195008 [(.dat (.int .i64 0)),.nil]⟩,⟨none,none,.store 2 (.t 8) (.t 37)⟩,⟨some 9,none,.mv (.t 38)⟩])
 (.seq (.ops [
 ⟨some 40,none,.fad 2 (.t 2)⟩,⟨some 41,none,.load 2 true (.t 40)⟩,⟨some 42,none,.fad 2 (.t 3)⟩,⟨some 43,none,.load 2 true (.t 42)⟩,⟨some 44,none,.call id_ref04_Mul [(.t 41),(.t 43)]⟩,⟨some 39,none,.mv (.t 44)⟩,⟨some 45,none,.ext 0 (.t 39)⟩,⟨some 46,none,.ext 1 (.t 39)⟩,⟨some 10,none,.alloc 195010 [(.dat (.int .i64 0)),.nil]⟩,⟨none,none,.store 2 (.t 10) (.t 45)⟩,⟨some 11,none,.mv (.t 46)⟩])
 (.seq (.ops [
 ⟨some 48,none,.load 2 true (.t 6)⟩,⟨some 49,none,.load 2 true (.t 8)⟩,⟨some 50,none,.call id_ref04_Sub [(.t 48),(.t 49)]⟩,⟨some 47,none,.mv (.t 50)⟩,⟨some 51,none,.ext 0 (.t 47)⟩,⟨some 52,none,.ext 1 (.t 47)⟩,⟨some 12,none,.alloc 195012 [(.dat (.int .i64 0)),.nil]⟩,⟨none,none,.store 2 (.t 12) (.t 51)⟩,⟨some 13,none,.mv (.t 52)⟩])
 (.seq (.ops [
 ⟨some 53,none,.load 2 true (.t 12)⟩,⟨some 54,none,.load 2 true (.t 10)⟩,⟨some 55,none,.mv (.t 7)⟩,⟨some 56,none,.bin .neq (.t 55) (.c (.dat (.int .i64 0)))⟩,⟨some 57,none,.mv (.t 56)⟩,⟨some 58,some (57,false),.mv (.t 9)⟩,⟨some 59,some (57,false),.bin .neq (.t 58) (.c (.dat (.int .i64 0)))⟩,⟨some 60,none,.pick (.t 57) (.c (.dat (.bool true))) (.t 59)⟩,⟨some 61,none,.mv (.t 60)⟩,⟨some 62,some (61,false),.mv (.t 11)⟩,⟨some 63,some (61,false),.bin .neq (.t 62) (.c (.dat (.int .i64 0)))⟩,⟨some 64,none,.pick (.t 61) (.c (.dat (.bool true))) (.t 63)⟩,⟨some 65,none,.mv (.t 64)⟩,⟨some 66,some (65,false),.mv (.t 13)⟩,⟨some 67,some (65,false),.bin .neq (.t 66) (.c (.dat (.int .i64 0)))⟩,⟨some 68,none,.pick (.t 65) (.c (.dat (.bool true))) (.t 67)⟩,⟨some 69,none,.call id_ref05_made [(.t 53),(.t 54),(.t 68)]⟩,⟨some 70,none,.ext 0 (.t 69)⟩,⟨some 71,none,.ext 1 (.t 69)⟩,⟨none,none,.store 4 (.t 4) (.t 70)⟩,⟨some 5,none,.mv (.t 71)⟩])
 .ret))))))) }
def mf_ref05_Right:MFunc :=
 { n:=33,np:=1,res:=[.t 2],body :=
 (.seq (.ops [
 ⟨some 1,none,.box 196001 (.t 0)⟩,⟨some 2,none,.mv (.c (.dat (.bool false)))⟩])
 (.seq (.seq (.ops [
 ⟨some 5,none,.fad 0 (.t 1)⟩,⟨some 6,none,.load 2 true (.t 5)⟩,⟨some 7,none,.call id_ref04_Right [(.t 6)]⟩,⟨some 8,none,.un .not (.t 7)⟩,⟨some 9,none,.mv (.t 8)⟩,⟨some 10,some (9,false),.fad 2 (.t 1)⟩,⟨some 11,some (9,false),.load 2 true (.t 10)⟩,⟨some 12,some (9,false),.call id_ref04_Right [(.t 11)]⟩,⟨some 13,some (9,false),.un .not (.t 12)⟩,⟨some 14,none,.pick (.t 9) (.c (.dat (.bool true))) (.t 13)⟩,⟨some 15,none,.mv (.t 14)⟩,⟨some 16,some (15,false),.fad 2 (.t 1)⟩,⟨some 17,some (15,false),.fad 0 (.t 16)⟩,⟨some 18,some (15,false),.load 1 false (.t 17)⟩,⟨some 19,some (15,false),.bin .lss (.t 18) (.c (.dat (.int .i64 1)))⟩,⟨some 20,none,.pick (.t 15) (.c (.dat (.bool true))) (.t 19)⟩])
 (.cond (.t 20)
 (.seq (.ops [
 ⟨some 2,none,.mv (.c (.dat (.bool false)))⟩])
 .ret)
 .skip))
 (.seq (.ops [
 ⟨some 22,none,.fad 0 (.t 1)⟩,⟨some 23,none,.load 2 true (.t 22)⟩,⟨some 24,none,.fad 2 (.t 1)⟩,⟨some 25,none,.load 2 true (.t 24)⟩,⟨some 26,none,.call id_ref04_Gcd [(.t 23),(.t 25)]⟩,⟨some 21,none,.mv (.t 26)⟩,⟨some 27,none,.ext 0 (.t 21)⟩,⟨some 28,none,.ext 1 (.t 21)⟩,⟨some 3,none,.alloc 196003 [(.dat (.int .i64 0)),.nil]⟩,⟨none,none,.store 2 (.t 3) (.t 27)⟩,⟨some 4,none,.mv (.t 28)⟩])
 (.seq (.opsD [
 ⟨some 29,none,.load 2 true (.t 3)⟩,⟨some 30,none,.call id_ref04_Of [(.c (.dat (.int .i64 1)))]⟩,⟨some 31,none,.call id_ref04_Compare [(.t 29),(.t 30)]⟩,⟨some 32,none,.bin .eql (.t 31) (.c (.dat (.int .i64 0)))⟩,⟨some 2,none,.mv (.t 32)⟩] [[],[],[],[],[]])
 .ret)))) }
def mf_ref05_Mul:MFunc :=
 { n:=46,np:=2,res:=[.cell 4 4 true,.t 5],body :=
 (.seq (.ops [
 ⟨some 2,none,.box 197002 (.t 0)⟩,⟨some 3,none,.box 197003 (.t 1)⟩,⟨some 4,none,.alloc 197004 [(.dat (.int .i64 0)),.nil,(.dat (.int .i64 0)),.nil]⟩,⟨some 5,none,.mv (.c (.dat (.int .i64 0)))⟩])
 (.seq (.seq (.ops [
 ⟨some 10,none,.load 4 true (.t 2)⟩,⟨some 11,none,.call id_ref05_Right [(.t 10)]⟩,⟨some 12,none,.un .not (.t 11)⟩,⟨some 13,none,.mv (.t 12)⟩,⟨some 14,some (13,false),.load 4 true (.t 3)⟩,⟨some 15,some (13,false),.call id_ref05_Right [(.t 14)]⟩,⟨some 16,some (13,false),.un .not (.t 15)⟩,⟨some 17,none,.pick (.t 13) (.c (.dat (.bool true))) (.t 16)⟩])
 (.cond (.t 17)
 (.seq (.ops [
 ⟨some 18,none,.build [(.dat (.int .i64 0)),.nil,(.dat (.int .i64 0)),.nil] []⟩,⟨none,none,.store 4 (.t 4) (.t 18)⟩,⟨some 5,none,.mv (.c (.dat (.int .i64 1)))⟩])
 .ret)
 .skip))
 (.seq (.ops [
 ⟨some 20,none,.fad 0 (.t 2)⟩,⟨some 21,none,.load 2 true (.t 20)⟩,⟨some 22,none,.fad 0 (.t 3)⟩,⟨some 23,none,.load 2 true (.t 22)⟩,⟨some 24,none,.call id_ref04_Mul [(.t 21),(.t 23)]⟩,⟨some 19,none,.mv (.t 24)⟩,⟨some 25,none,.ext 0 (.t 19)⟩,⟨some 26,none,.ext 1 (.t 19)⟩,⟨some 6,none,.alloc 197006 [(.dat (.int .i64 0)),.nil]⟩,⟨none,none,.store 2 (.t 6) (.t 25)⟩,⟨some 7,none,.mv (.t 26)⟩])
 (.seq (.ops [
 ⟨some 28,none,.fad 2 (.t 2)⟩,⟨some 29,none,.load 2 true (.t 28)⟩,⟨some 30,none,.fad 2 (.t 3)⟩,⟨some 31,none,.load 2 true (.t 30)⟩,⟨some 32,none,.call id_ref04_Mul [(.t 29),(.t 31)]⟩,⟨some 27,none,.mv (.t 32)⟩,⟨some 33,none,.ext 0 (.t 27)⟩,⟨some 34,none,.ext 1 (.t 27)⟩,⟨some 8,none,.alloc 197008 [(.dat (.int .i64 0)),.nil]⟩,⟨none,none,.store 2 (.t 8) (.t 33)⟩,⟨some 9,none,.mv (.t 34)⟩])
 (.seq (.ops [
 ⟨some 35,none,.load 2 true (.t 6)⟩,⟨some 36,none,.load 2 true (.t 8)⟩,⟨some 37,none,.mv (.t 7)⟩,⟨some 38,none,.bin .neq (.t 37) (.c (.dat (.int .i64 0)))⟩,⟨some 39,none,.mv (.t 38)⟩,⟨some 40,some (39,false),.mv (.t 9)⟩,⟨some 41,some (39,false),.bin .neq (.t 40) (.c (.dat (.int .i64 0)))⟩,⟨some 42,none,.pick (.t 39) (.c (.dat (.bool true))) (.t 41)⟩,⟨some 43,none,.call id_ref05_made [(.t 35),(.t 36),(.t 42)]⟩,⟨some 44,none,.ext 0 (.t 43)⟩,⟨some 45,none,.ext 1 (.t 43)⟩,⟨none,none,.store 4 (.t 4) (.t 44)⟩,⟨some 5,none,.mv (.t 45)⟩])
 .ret))))) }
def mf_ref05_Add:MFunc :=
 { n:=72,np:=2,res:=[.cell 4 4 true,.t 5],body :=
 (.seq (.ops [
 ⟨some 2,none,.box 198002 (.t 0)⟩,⟨some 3,none,.box 198003 (.t 1)⟩,⟨some 4,none,.alloc 198004 [(.dat (.int .i64 0)),.nil,(.dat (.int .i64 0)),.nil]⟩,⟨some 5,none,.mv (.c (.dat (.int .i64 0)))⟩])
 (.seq (.seq (.ops [
 ⟨some 14,none,.load 4 true (.t 2)⟩,⟨some 15,none,.call id_ref05_Right [(.t 14)]⟩,⟨some 16,none,.un .not (.t 15)⟩,⟨some 17,none,.mv (.t 16)⟩,⟨some 18,some (17,false),.load 4 true (.t 3)⟩,⟨some 19,some (17,false),.call id_ref05_Right [(.t 18)]⟩,⟨some 20,some (17,false),.un .not (.t 19)⟩,⟨some 21,none,.pick (.t 17) (.c (.dat (.bool true))) (.t 20)⟩])
 (.cond (.t 21)
 (.seq (.ops [
 ⟨some 22,none,.build [(.dat (.int .i64 0)),.nil,(.dat (.int .i64 0)),.nil] []⟩,⟨none,none,.store 4 (.t 4) (.t 22)⟩,⟨some 5,none,.mv (.c (.dat (.int .i64 1)))⟩])
 .ret)
 .skip))
 (.seq (.ops [
 ⟨some 24,none,.fad 0 (.t 2)⟩,⟨some 25,none,.load 2 true (.t 24)⟩,⟨some 26,none,.fad 2 (.t 3)⟩,⟨some 27,none,.load 2 true (.t 26)⟩,⟨some 28,none,.call id_ref04_Mul [(.t 25),(.t 27)]⟩,⟨some 23,none,.mv (.t 28)⟩,⟨some 29,none,.ext 0 (.t 23)⟩,⟨some 30,none,.ext 1 (.t 23)⟩,⟨some 6,none,.alloc 198006 [(.dat (.int .i64 0)),.nil]⟩,⟨none,none,.store 2 (.t 6) (.t 29)⟩,⟨some 7,none,.mv (.t 30)⟩])
 (.seq (.ops [
 ⟨some 32,none,.fad 0 (.t 3)⟩,⟨some 33,none,.load 2 true (.t 32)⟩,⟨some 34,none,.fad 2 (.t 2)⟩,⟨some 35,none,.load 2 true (.t 34)⟩,⟨some 36,none,.call id_ref04_Mul [(.t 33),(.t 35)]⟩,⟨some 31,none,.mv (.t 36)⟩,⟨some 37,none,.ext 0 (.t 31)⟩,⟨some 38,none,.ext 1 (.t 31)⟩,⟨some 8,none,.alloc 198008 [(.dat (.int .i64 0)),.nil]⟩,⟨none,none,.store 2 (.t 8) (.t 37)⟩,⟨some 9,none,.mv (.t 38)⟩])
 (.seq (.ops [
 ⟨some 40,none,.fad 2 (.t 2)⟩,⟨some 41,none,.load 2 true (.t 40)⟩,⟨some 42,none,.fad 2 (.t 3)⟩,⟨some 43,none,.load 2 true (.t 42)⟩,⟨some 44,none,.call id_ref04_Mul [(.t 41),(.t 43)]⟩,⟨some 39,none,.mv (.t 44)⟩,⟨some 45,none,.ext 0 (.t 39)⟩,⟨some 46,none,.ext 1 (.t 39)⟩,⟨some 10,none,.alloc 198010 [(.dat (.int .i64 0)),.nil]⟩,⟨none,none,.store 2 (.t 10) (.t 45)⟩,⟨some 11,none,.mv (.t 46)⟩])
 (.seq (.ops [
 ⟨some 48,none,.load 2 true (.t 6)⟩,⟨some 49,none,.load 2 true (.t 8)⟩,⟨some 50,none,.call id_ref04_Add [(.t 48),(.t 49)]⟩,⟨some 47,none,.mv (.t 50)⟩,⟨some 51,none,.ext 0 (.t 47)⟩,⟨some 52,none,.ext 1 (.t 47)⟩,⟨some 12,none,.alloc 198012 [(.dat (.int .i64 0)),.nil]⟩,⟨none,none,.store 2 (.t 12) (.t 51)⟩,⟨some 13,none,.mv (.t 52)⟩])
 (.seq (.ops [
 ⟨some 53,none,.load 2 true (.t 12)⟩,⟨some 54,none,.load 2 true (.t 10)⟩,⟨some 55,none,.mv (.t 7)⟩,⟨some 56,none,.bin .neq (.t 55) (.c (.dat (.int .i64 0)))⟩,⟨some 57,none,.mv (.t 56)⟩,⟨some 58,some (57,false),.mv (.t 9)⟩,⟨some 59,some (57,false),.bin .neq (.t 58) (.c (.dat (.int .i64 0)))⟩,⟨some 60,none,.pick (.t 57) (.c (.dat (.bool true))) (.t 59)⟩,⟨some 61,none,.mv (.t 60)⟩,⟨some 62,some (61,false),.mv (.t 11)⟩,⟨some 63,some (61,false),.bin .neq (.t 62) (.c (.dat (.int .i64 0)))⟩,⟨some 64,none,.pick (.t 61) (.c (.dat (.bool true))) (.t 63)⟩,⟨some 65,none,.mv (.t 64)⟩,⟨some 66,some (65,false),.mv (.t 13)⟩,⟨some 67,some (65,false),.bin .neq (.t 66) (.c (.dat (.int .i64 0)))⟩,⟨some 68,none,.pick (.t 65) (.c (.dat (.bool true))) (.t 67)⟩,⟨some 69,none,.call id_ref05_made [(.t 53),(.t 54),(.t 68)]⟩,⟨some 70,none,.ext 0 (.t 69)⟩,⟨some 71,none,.ext 1 (.t 69)⟩,⟨none,none,.store 4 (.t 4) (.t 70)⟩,⟨some 5,none,.mv (.t 71)⟩])
 .ret))))))) }
def mf_ref05_made:MFunc :=
 { n:=15,np:=3,res:=[.cell 6 4 true,.t 7],body :=
 (.seq (.ops [
 ⟨some 3,none,.box 204003 (.t 0)⟩,⟨some 4,none,.box 204004 (.t 1)⟩,⟨some 6,none,.alloc 204006 [(.dat (.int .i64 0)),.nil,(.dat (.int .i64 0)),.nil]⟩,⟨some 7,none,.mv (.c (.dat (.int .i64 0)))⟩])
 (.seq (.seq (.ops [
 ⟨some 8,none,.mv (.t 2)⟩])
 (.cond (.t 8)
 (.seq (.ops [
 ⟨some 9,none,.build [(.dat (.int .i64 0)),.nil,(.dat (.int .i64 0)),.nil] []⟩,⟨none,none,.store 4 (.t 6) (.t 9)⟩,⟨some 7,none,.mv (.c (.dat (.int .i64 6)))⟩])
 .ret)
 .skip))
 (.seq (.ops [
 ⟨some 10,none,.load 2 true (.t 3)⟩,⟨some 11,none,.load 2 true (.t 4)⟩,⟨some 12,none,.call id_ref05_New [(.t 10),(.t 11)]⟩,⟨some 13,none,.ext 0 (.t 12)⟩,⟨some 14,none,.ext 1 (.t 12)⟩,⟨none,none,.store 4 (.t 6) (.t 13)⟩,⟨some 7,none,.mv (.t 14)⟩])
 .ret))) }
def mf_ref05_Div:MFunc :=
 { n:=51,np:=2,res:=[.cell 4 4 true,.t 5],body :=
 (.seq (.ops [
 ⟨some 2,none,.box 207002 (.t 0)⟩,⟨some 3,none,.box 207003 (.t 1)⟩,⟨some 4,none,.alloc 207004 [(.dat (.int .i64 0)),.nil,(.dat (.int .i64 0)),.nil]⟩,⟨some 5,none,.mv (.c (.dat (.int .i64 0)))⟩])
 (.seq (.seq (.ops [
 ⟨some 10,none,.load 4 true (.t 2)⟩,⟨some 11,none,.call id_ref05_Right [(.t 10)]⟩,⟨some 12,none,.un .not (.t 11)⟩,⟨some 13,none,.mv (.t 12)⟩,⟨some 14,some (13,false),.load 4 true (.t 3)⟩,⟨some 15,some (13,false),.call id_ref05_Right [(.t 14)]⟩,⟨some 16,some (13,false),.un .not (.t 15)⟩,⟨some 17,none,.pick (.t 13) (.c (.dat (.bool true))) (.t 16)⟩])
 (.cond (.t 17)
 (.seq (.ops [
 ⟨some 18,none,.build [(.dat (.int .i64 0)),.nil,(.dat (.int .i64 0)),.nil] []⟩,⟨none,none,.store 4 (.t 4) (.t 18)⟩,⟨some 5,none,.mv (.c (.dat (.int .i64 1)))⟩])
 .ret)
 .skip))
 (.seq (.seq (.ops [
 ⟨some 19,none,.fad 0 (.t 3)⟩,⟨some 20,none,.fad 0 (.t 19)⟩,⟨some 21,none,.load 1 false (.t 20)⟩,⟨some 22,none,.bin .eql (.t 21) (.c (.dat (.int .i64 0)))⟩])
 (.cond (.t 22)
 (.seq (.ops [
 ⟨some 23,none,.build [(.dat (.int .i64 0)),.nil,(.dat (.int .i64 0)),.nil] []⟩,⟨none,none,.store 4 (.t 4) (.t 23)⟩,⟨some 5,none,.mv (.c (.dat (.int .i64 15)))⟩])
 .ret)
 .skip))
 (.seq (.ops [
 ⟨some 25,none,.fad 0 (.t 2)⟩,⟨some 26,none,.load 2 true (.t 25)⟩,⟨some 27,none,.fad 2 (.t 3)⟩,⟨some 28,none,.load 2 true (.t 27)⟩,⟨some 29,none,.call id_ref04_Mul [(.t 26),(.t 28)]⟩,⟨some 24,none,.mv (.t 29)⟩,⟨some 30,none,.ext 0 (.t 24)⟩,⟨some 31,none,.ext 1 (.t 24)⟩,⟨some 6,none,.alloc 207006 [(.dat (.int .i64 0)),.nil]⟩,⟨none,none,.store 2 (.t 6) (.t 30)⟩,⟨some 7,none,.mv (.t 31)⟩])
 (.seq (.ops [
 ⟨some 33,none,.fad 2 (.t 2)⟩,⟨some 34,none,.load 2 true (.t 33)⟩,⟨some 35,none,.fad 0 (.t 3)⟩,⟨some 36,none,.load 2 true (.t 35)⟩,⟨some 37,none,.call id_ref04_Mul [(.t 34),(.t 36)]⟩,⟨some 32,none,.mv (.t 37)⟩,⟨some 38,none,.ext 0 (.t 32)⟩,⟨some 39,none,.ext 1 (.t 32)⟩,⟨some 8,none,.alloc 207008 [(.dat (.int .i64 0)),.nil]⟩,⟨none,none,.store 2 (.t 8) (.t 38)⟩,⟨some 9,none,.mv (.t 39)⟩])
 (.seq (.ops [
 ⟨some 40,none,.load 2 true (.t 6)⟩,⟨some 41,none,.load 2 true (.t 8)⟩,⟨some 42,none,.mv (.t 7)⟩,⟨some 43,none,.bin .neq (.t 42) (.c (.dat (.int .i64 0)))⟩,⟨some 44,none,.mv (.t 43)⟩,⟨some 45,some (44,false),.mv (.t 9)⟩,⟨some 46,some (44,false),.bin .neq (.t 45) (.c (.dat (.int .i64 0)))⟩,⟨some 47,none,.pick (.t 44) (.c (.dat (.bool true))) (.t 46)⟩,⟨some 48,none,.call id_ref05_made [(.t 40),(.t 41),(.t 47)]⟩,⟨some 49,none,.ext 0 (.t 48)⟩,⟨some 50,none,.ext 1 (.t 48)⟩,⟨none,none,.store 4 (.t 4) (.t 49)⟩,⟨some 5,none,.mv (.t 50)⟩])
 .ret)))))) }
end Go.Mini
namespace Go.Mini
open Go
set_option maxRecDepth 10000
set_option maxHeartbeats 4000000
noncomputable def F_gNew:List Data→Option PRes:=FF (α:=Int × (List Int) × Int × (List Int)) (fun (s,l,s2,l2)=>([.agg [.int .i64 s,.sl (l.map i64L)],.agg [.int .i64 s2,.sl (l2.map i64L)]]:List Data)) (fun (s,l,s2,l2)=>onlyIf (l.length≤1000000∧l2.length≤1000000) (.same (fracE (newR (s,l) (s2,l2)))))
theorem F_gNew_inj:∀ a b:Int × (List Int) × Int × (List Int),(fun (s,l,s2,l2)=>([.agg [.int .i64 s,.sl (l.map i64L)],.agg [.int .i64 s2,.sl (l2.map i64L)]]:List Data)) a=(fun (s,l,s2,l2)=>([.agg [.int .i64 s,.sl (l.map i64L)],.agg [.int .i64 s2,.sl (l2.map i64L)]]:List Data)) b→a=b:=by
  rintro⟨s1,l1,s21,l21⟩ ⟨s2,l2,s22,l22⟩ h
  simp only[yM,Data.agg.injEq,Data.int.injEq,Data.sl.injEq] at h;exact Prod.ext h.1.1.2 (Prod.ext (map_inj i64L_inj _ _ h.1.2.1) (Prod.ext h.2.1.1.2 (map_inj i64L_inj _ _ h.2.1.2.1)))
@[go_sem] theorem F_gNew_eq (s:Int) (l:List Int) (s2:Int) (l2:List Int) (hc:l.length≤1000000∧l2.length≤1000000):F_gNew [.agg [.int .i64 s,.sl (l.map i64L)],.agg [.int .i64 s2,.sl (l2.map i64L)]]=some (.same (fracE (newR (s,l) (s2,l2)))):=(FF_eq F_gNew_inj (s,l,s2,l2)).trans (onlyIf_pos hc _)
theorem w_gNew (T:Tab) (h_rRight:T id_ref04_Right=mkE F_rRight) (h_rNeg:T id_ref04_Neg=mkE F_rNeg) (h_rGcd:T id_ref04_Gcd=mkE F_rGcd) (h_rDiv:T id_ref04_Div=mkE F_rDiv) (s:Int) (l:List Int) (s2:Int) (l2:List Int) (hc:l.length≤1000000∧l2.length≤1000000) :
  wp T mf_ref05_New.body (endS mf_ref05_New.res (.same (fracE (newR (s,l) (s2,l2))))) ⟨initTm [.dat (.agg [.int .i64 s,.sl (l.map i64L)]),.dat (.agg [.int .i64 s2,.sl (l2.map i64L)])],emp⟩:=by
 refine wp_start ?_
 simp only[mf_ref05_New]
 obtain⟨hl1,hl2⟩:=hc
 by_cases hr:rightR (s,l)=true
 ·by_cases hr2:rightR (s2,l2)=true
  ·obtain⟨x,hx,e⟩:=(rightR_iff _).1 hr
   obtain⟨y,hy,e2⟩:=(rightR_iff _).1 hr2
   by_cases h0:y=0
   ·have hm:newR (s,l) (s2,l2)=(zeroF,15):=by
     unfold newR;rw[hr,hr2,e2,valB_enc,if_pos (by rfl),if_pos h0]
    rw[hm]
    cases e
    cases e2
    have hs:(y.sign==0)=true:=by rw[h0];rfl
    simp only[go_sem,reduceIte,yA,yB,yC,yD,yE,yH,reduceCtorEq,yF,yG,yI,h_rRight,h_rNeg,h_rGcd,h_rDiv,hr,hr2,hl1,hl2,hs,fracE,fracL,zeroF,List.map_nil]
    repeat' (first|refine qqA ?_ ?_|refine qqB ?_ ?_|refine qqC ?_ ?_|refine qqD ?_ ?_|refine qqE ?_ ?_|refine qqF ?_ ?_)<;>intro h<;>simp only[h,go_sem,reduceIte,yA,yB,yC,yD,yE,yH,reduceCtorEq,yF,yG,yI,h_rRight,h_rNeg,h_rGcd,h_rDiv,hr,hr2,hl1,hl2,hs,fracE,fracL,zeroF,List.map_nil]
   ·have main:∀ p q:Int,p.natAbs<LIM→q.natAbs<LIM→0<q→∃ g:Raw,gcdR (encB p) (encB q)=(g,0)∧g.2.length≤1000000∧divR (encB p) g=(encB (Rat.divInt p q).num,encB (p.fmod ((Nat.gcd p.natAbs q.natAbs:Nat):Int)),0)∧divR (encB q) g=(encB (Rat.divInt p q).den,encB (q.fmod ((Nat.gcd p.natAbs q.natAbs:Nat):Int)),0):=by
     intro p q hp hq hq0
     have hgl:=gcd_lim hp hq
     have hgl':((Nat.gcd p.natAbs q.natAbs:Nat):Int).natAbs<LIM:=by rw[Int.natAbs_natCast];exact hgl
     have hg0:=gcd_pos' (p:=p) (q:=q) (by omega)
     obtain⟨h1,h2⟩:=divInt_parts (p:=p) hq0
     refine⟨encB ((Nat.gcd p.natAbs q.natAbs:Nat):Int),?_,len_ok hgl',?_,?_⟩
     ·unfold gcdR;rw[right_enc hp,right_enc hq,valB_enc,valB_enc];rfl
     ·rw[divR_enc hp hgl' (by omega),h1]
     ·rw[divR_enc hq hgl' (by omega),h2]
    have hs0:(y.sign==0)=false:=by simpa using h0
    rcases Int.lt_or_gt_of_ne h0 with hneg | hpos
    ·have hs1:decide (y.sign<0)=true:=by rw[Int.sign_eq_neg_one_of_neg hneg];rfl
     obtain⟨⟨g1,g2⟩,hg,hgl,hd1,hd2⟩:=main (-x) (-y) (by omega) (by omega) (by omega)
     have hm:newR (s,l) (s2,l2)=(encR (Rat.divInt (-x) (-y)),0):=by
      rw[e,e2,newR_enc hx hy h0,Rat.neg_divInt_neg]
     rw[hm]
     have hn1:negR (s,l)=encB (-x):=by unfold negR;rw[if_pos hr,e,valB_enc]
     have hn2:negR (s2,l2)=encB (-y):=by unfold negR;rw[if_pos hr2,e2,valB_enc]
     have hy1:s2=y.sign:=congrArg Prod.fst e2
     have hl3:(encB (-x)).2.length≤1000000:=len_ok (by omega)
     have hl4:(encB (-y)).2.length≤1000000:=len_ok (by omega)
     clear e e2
     unfold encR
     generalize encB (-x)=X at *
     generalize encB (-y)=Y at *
     obtain⟨x1,x2⟩:=X
     obtain⟨y1,y2⟩:=Y
     rw[←hy1] at hs0 hs1
     simp only[go_sem,reduceIte,yA,yB,yC,yD,yE,yH,reduceCtorEq,yF,yG,yI,h_rRight,h_rNeg,h_rGcd,h_rDiv,hr,hr2,hl1,hl2,hs0,hs1,hn1,hn2,hl3,hl4,hg,hgl,hd1,hd2,fracE,fracL,bigE,bigE2,bigL]
     repeat' (first|refine qqA ?_ ?_|refine qqB ?_ ?_|refine qqC ?_ ?_|refine qqD ?_ ?_|refine qqE ?_ ?_|refine qqF ?_ ?_)<;>intro h<;>simp only[h,go_sem,reduceIte,yA,yB,yC,yD,yE,yH,reduceCtorEq,yF,yG,yI,h_rRight,h_rNeg,h_rGcd,h_rDiv,hr,hr2,hl1,hl2,hs0,hs1,hn1,hn2,hl3,hl4,hg,hgl,hd1,hd2,fracE,fracL,bigE,bigE2,bigL]
    ·have hs1:decide (y.sign<0)=false:=by rw[Int.sign_eq_one_of_pos hpos];rfl
     obtain⟨⟨g1,g2⟩,hg,hgl,hd1,hd2⟩:=main x y hx hy hpos
     have hm:newR (s,l) (s2,l2)=(encR (Rat.divInt x y),0):=by
      rw[e,e2,newR_enc hx hy h0]
     rw[hm]
     have hy1:s2=y.sign:=congrArg Prod.fst e2
     rw[←e] at hg hd1
     rw[←e2] at hg hd2
     rw[←hy1] at hs0 hs1
     unfold encR
     simp only[go_sem,reduceIte,yA,yB,yC,yD,yE,yH,reduceCtorEq,yF,yG,yI,h_rRight,h_rNeg,h_rGcd,h_rDiv,hr,hr2,hl1,hl2,hs0,hs1,hg,hgl,hd1,hd2,fracE,fracL,bigE,bigE2,bigL]
     repeat' (first|refine qqA ?_ ?_|refine qqB ?_ ?_|refine qqC ?_ ?_|refine qqD ?_ ?_|refine qqE ?_ ?_|refine qqF ?_ ?_)<;>intro h<;>simp only[h,go_sem,reduceIte,yA,yB,yC,yD,yE,yH,reduceCtorEq,yF,yG,yI,h_rRight,h_rNeg,h_rGcd,h_rDiv,hr,hr2,hl1,hl2,hs0,hs1,hg,hgl,hd1,hd2,fracE,fracL,bigE,bigE2,bigL]
  ·have hr2:rightR (s2,l2)=false:=by simpa using hr2
   have hm:newR (s,l) (s2,l2)=(zeroF,1):=by unfold newR;rw[hr2,Bool.and_false];rfl
   rw[hm]
   simp only[go_sem,reduceIte,yA,yB,yC,yD,yE,yH,reduceCtorEq,yF,yG,yI,h_rRight,h_rNeg,h_rGcd,h_rDiv,hr,hr2,hl1,hl2,fracE,fracL,zeroF,List.map_nil]
   repeat' (first|refine qqA ?_ ?_|refine qqB ?_ ?_|refine qqC ?_ ?_|refine qqD ?_ ?_|refine qqE ?_ ?_|refine qqF ?_ ?_)<;>intro h<;>simp only[h,go_sem,reduceIte,yA,yB,yC,yD,yE,yH,reduceCtorEq,yF,yG,yI,h_rRight,h_rNeg,h_rGcd,h_rDiv,hr,hr2,hl1,hl2,fracE,fracL,zeroF,List.map_nil]
 ·have hr:rightR (s,l)=false:=by simpa using hr
  have hm:newR (s,l) (s2,l2)=(zeroF,1):=by unfold newR;rw[hr,Bool.false_and];rfl
  rw[hm]
  simp only[go_sem,reduceIte,yA,yB,yC,yD,yE,yH,reduceCtorEq,yF,yG,yI,h_rRight,h_rNeg,h_rGcd,h_rDiv,hr,hl1,hl2,fracE,fracL,zeroF,List.map_nil]
  repeat' (first|refine qqA ?_ ?_|refine qqB ?_ ?_|refine qqC ?_ ?_|refine qqD ?_ ?_|refine qqE ?_ ?_|refine qqF ?_ ?_)<;>intro h<;>simp only[h,go_sem,reduceIte,yA,yB,yC,yD,yE,yH,reduceCtorEq,yF,yG,yI,h_rRight,h_rNeg,h_rGcd,h_rDiv,hr,hl1,hl2,fracE,fracL,zeroF,List.map_nil]
noncomputable def F_gOf:List Data→Option PRes:=FF (α:=Int × Int) (fun (p,q)=>([.int .i64 p,.int .i64 q]:List Data)) (fun (p,q)=>onlyIf (i64R p∧i64R q) (.same (fracE (newR (encB p) (encB q)))))
theorem F_gOf_inj:∀ a b:Int × Int,(fun (p,q)=>([.int .i64 p,.int .i64 q]:List Data)) a=(fun (p,q)=>([.int .i64 p,.int .i64 q]:List Data)) b→a=b:=by
  rintro⟨p1,q1⟩ ⟨p2,q2⟩ h
  simp only[yM,Data.int.injEq,Data.agg.injEq,Data.sl.injEq,Data.bool.injEq,Data.str.injEq,Data.ptr.injEq,Data.tup.injEq,Prod.mk.injEq,true_and,and_true] at h ⊢
  first | exact h | simpa [Prod.ext_iff,and_assoc] using h | grind
@[go_sem] theorem F_gOf_eq (p:Int) (q:Int) (hc:i64R p∧i64R q):F_gOf [.int .i64 p,.int .i64 q]=some (.same (fracE (newR (encB p) (encB q)))):=(FF_eq F_gOf_inj (p,q)).trans (onlyIf_pos hc _)
theorem w_gOf (T:Tab) (h_rOf:T id_ref04_Of=mkE F_rOf) (h_gNew:T id_ref05_New=mkE F_gNew) (p:Int) (q:Int) (hc:i64R p∧i64R q) :
  wp T mf_ref05_Of.body (endS mf_ref05_Of.res (.same (fracE (newR (encB p) (encB q))))) ⟨initTm [.dat (.int .i64 p),.dat (.int .i64 q)],emp⟩:=by
 refine wp_start ?_
 simp only[mf_ref05_Of]
 obtain⟨h1,h2⟩:=hc
 have l1:(encB p).2.length≤1000000:=len_ok (lim_i64 h1)
 have l2:(encB q).2.length≤1000000:=len_ok (lim_i64 h2)
 generalize hP:encB p=P at *
 generalize hQ:encB q=Q at *
 obtain⟨x1,x2⟩:=P
 obtain⟨y1,y2⟩:=Q
 simp only[go_sem,reduceIte,yA,yB,yC,yD,yE,yH,reduceCtorEq,yF,yG,yI,h_rOf,h_gNew,h1,h2,hP,hQ,l1,l2,bigL,fracE,fracL]
 repeat' (first|refine qqA ?_ ?_|refine qqB ?_ ?_|refine qqC ?_ ?_|refine qqD ?_ ?_|refine qqE ?_ ?_|refine qqF ?_ ?_)<;>intro h<;>simp only[h,go_sem,reduceIte,yA,yB,yC,yD,yE,yH,reduceCtorEq,yF,yG,yI,h_rOf,h_gNew,h1,h2,hP,hQ,l1,l2,bigL,fracE,fracL]
noncomputable def F_gSameBig:List Data→Option PRes:=FF (α:=Int × (List Int) × Int × (List Int)) (fun (s,l,s2,l2)=>([.agg [.int .i64 s,.sl (l.map i64L)],.agg [.int .i64 s2,.sl (l2.map i64L)]]:List Data)) (fun (s,l,s2,l2)=>onlyIf (l.length≤1000000∧l2.length≤1000000) (.same (.bool (sameR (s,l) (s2,l2)))))
theorem F_gSameBig_inj:∀ a b:Int × (List Int) × Int × (List Int),(fun (s,l,s2,l2)=>([.agg [.int .i64 s,.sl (l.map i64L)],.agg [.int .i64 s2,.sl (l2.map i64L)]]:List Data)) a=(fun (s,l,s2,l2)=>([.agg [.int .i64 s,.sl (l.map i64L)],.agg [.int .i64 s2,.sl (l2.map i64L)]]:List Data)) b→a=b:=by
  rintro⟨s1,l1,s21,l21⟩ ⟨s2,l2,s22,l22⟩ h
  simp only[yM,Data.agg.injEq,Data.int.injEq,Data.sl.injEq] at h;exact Prod.ext h.1.1.2 (Prod.ext (map_inj i64L_inj _ _ h.1.2.1) (Prod.ext h.2.1.1.2 (map_inj i64L_inj _ _ h.2.1.2.1)))
@[go_sem] theorem F_gSameBig_eq (s:Int) (l:List Int) (s2:Int) (l2:List Int) (hc:l.length≤1000000∧l2.length≤1000000):F_gSameBig [.agg [.int .i64 s,.sl (l.map i64L)],.agg [.int .i64 s2,.sl (l2.map i64L)]]=some (.same (.bool (sameR (s,l) (s2,l2)))):=(FF_eq F_gSameBig_inj (s,l,s2,l2)).trans (onlyIf_pos hc _)
theorem w_gSameBig (T:Tab)  (s:Int) (l:List Int) (s2:Int) (l2:List Int) (hc:l.length≤1000000∧l2.length≤1000000) :
  wp T mf_ref05_SameBig.body (endS mf_ref05_SameBig.res (.same (.bool (sameR (s,l) (s2,l2))))) ⟨initTm [.dat (.agg [.int .i64 s,.sl (l.map i64L)]),.dat (.agg [.int .i64 s2,.sl (l2.map i64L)])],emp⟩:=by
 refine wp_start ?_
 simp only[mf_ref05_SameBig]
 obtain⟨hl1,hl2⟩:=hc
 by_cases hs:s=s2
 ·subst hs
  by_cases hl:l.length=l2.length
  ·have e1:(((l.length:Nat):Int)==((l2.length:Nat):Int))=true:=by simp;omega
   simp only[go_sem,reduceIte,yA,yB,yC,yD,yE,yH,reduceCtorEq,yF,yG,yI,beq_self_eq_true,yJ,e1,Bool.not_true,bne]
   refine wp_loop_keep [2,3] [142002,142003] (fun (i:Nat) tm mem=>i≤l.length∧l.take i=l2.take i∧tm 5 = .dat (.int .i64 i)) (fun i=>l.length-i) 0 (by refine⟨by omega,by simp,rfl⟩) ?_
   intro vs ms hvs hms
   simp only[go_sem,reduceIte,yA,yB,yC,yD,yE,yH,reduceCtorEq,yF,yG,yI,yJ] at hvs hms
   subst hvs hms
   rintro i tm mem hk hm ⟨hi,hf,h5⟩
   simp only[go_sem,reduceIte,yA,yB,yC,yD,yE,yH,reduceCtorEq,yF,yG,yI,yM] at hk hm
   obtain⟨h2,h3⟩:=hk
   obtain⟨m2,m3⟩:=hm
   rcases Decidable.em (i<l.length) with hlt | hge
   ·have hx:l[i]?=some l[i]:=yL hlt
    have hy:l2[i]?=some l2[i]:=yL (by omega)
    have hn1:l.take (i+1)=l.take i++[l[i]]:=by rw[List.take_add_one,hx];rfl
    have hn2:l2.take (i+1)=l2.take i++[l2[i]]:=by rw[List.take_add_one,hy];rfl
    generalize l[i]=x at *
    generalize l2[i]=y at *
    have d1:decide ((i:Int)<(l.length:Int))=true:=decide_eq_true (by omega)
    have w3:IntKind.i64.wrap ((i:Int)+1)=((i+1:Nat):Int):=by rw[wrap64 _ (by omega) (by omega)];omega
    by_cases hxy:x=y
    ·subst hxy
     simp only[go_sem,reduceIte,yA,yB,yC,yD,yE,yH,reduceCtorEq,yF,yG,yI,h2,h3,h5,m2,m3,hx,hy,d1,w3,i64L,yJ,yK,yM,beq_self_eq_true,Bool.not_true]
     repeat' (first|refine qqA ?_ ?_|refine qqB ?_ ?_|refine qqC ?_ ?_|refine qqD ?_ ?_|refine qqE ?_ ?_|refine qqF ?_ ?_)<;>intro h<;>simp only[h,go_sem,reduceIte,yA,yB,yC,yD,yE,yH,reduceCtorEq,yF,yG,yI,h2,h3,h5,m2,m3,hx,hy,d1,w3,i64L,yJ,yK,yM,beq_self_eq_true,Bool.not_true]
     exact⟨i+1,by omega,by omega,by rw[hn1,hn2,hf],rfl⟩
    ·have hne:(x==y)=false:=by simpa using hxy
     have hr:sameR (s,l) (s,l2)=false:=by
      refine decide_eq_false fun h=>hxy ?_
      rw[Prod.mk.injEq] at h
      rw[h.2,hy] at hx
      exact (Option.some.inj hx).symm
     rw[hr]
     simp only[go_sem,reduceIte,yA,yB,yC,yD,yE,yH,reduceCtorEq,yF,yG,yI,h2,h3,h5,m2,m3,hx,hy,d1,w3,hne,i64L,yJ,yK,yM,Bool.not_false]
     repeat' (first|refine qqA ?_ ?_|refine qqB ?_ ?_|refine qqC ?_ ?_|refine qqD ?_ ?_|refine qqE ?_ ?_|refine qqF ?_ ?_)<;>intro h<;>simp only[h,go_sem,reduceIte,yA,yB,yC,yD,yE,yH,reduceCtorEq,yF,yG,yI,h2,h3,h5,m2,m3,hx,hy,d1,w3,hne,i64L,yJ,yK,yM,Bool.not_false]
   ·have d1:decide ((i:Int)<(l.length:Int))=false:=decide_eq_false (by omega)
    have hr:sameR (s,l) (s,l2)=true:=by
     refine decide_eq_true ?_
     rw[List.take_of_length_le (by omega),List.take_of_length_le (by omega)] at hf
     rw[hf]
    rw[hr]
    simp only[go_sem,reduceIte,yA,yB,yC,yD,yE,yH,reduceCtorEq,yF,yG,yI,h2,h3,h5,m2,m3,d1,yJ]
    repeat' (first|refine qqA ?_ ?_|refine qqB ?_ ?_|refine qqC ?_ ?_|refine qqD ?_ ?_|refine qqE ?_ ?_|refine qqF ?_ ?_)<;>intro h<;>simp only[h,go_sem,reduceIte,yA,yB,yC,yD,yE,yH,reduceCtorEq,yF,yG,yI,h2,h3,h5,m2,m3,d1,yJ]
  ·have e1:(((l.length:Nat):Int)==((l2.length:Nat):Int))=false:=by simp;omega
   have hr:sameR (s,l) (s,l2)=false:=by
    refine decide_eq_false fun h=>hl ?_
    rw[Prod.mk.injEq] at h
    rw[h.2]
   rw[hr]
   simp only[go_sem,reduceIte,yA,yB,yC,yD,yE,yH,reduceCtorEq,yF,yG,yI,beq_self_eq_true,yJ,e1,Bool.not_true,Bool.not_false,bne]
   repeat' (first|refine qqA ?_ ?_|refine qqB ?_ ?_|refine qqC ?_ ?_|refine qqD ?_ ?_|refine qqE ?_ ?_|refine qqF ?_ ?_)<;>intro h<;>simp only[h,go_sem,reduceIte,yA,yB,yC,yD,yE,yH,reduceCtorEq,yF,yG,yI,beq_self_eq_true,yJ,e1,Bool.not_true,Bool.not_false,bne]
 ·have hne:(s==s2)=false:=by simpa using hs
  have hr:sameR (s,l) (s2,l2)=false:=by
   refine decide_eq_false fun h=>hs ?_
   rw[Prod.mk.injEq] at h
   exact h.1
  rw[hr]
  simp only[go_sem,reduceIte,yA,yB,yC,yD,yE,yH,reduceCtorEq,yF,yG,yI,hne,yJ,Bool.not_true,Bool.not_false,bne]
  repeat' (first|refine qqA ?_ ?_|refine qqB ?_ ?_|refine qqC ?_ ?_|refine qqD ?_ ?_|refine qqE ?_ ?_|refine qqF ?_ ?_)<;>intro h<;>simp only[h,go_sem,reduceIte,yA,yB,yC,yD,yE,yH,reduceCtorEq,yF,yG,yI,hne,yJ,Bool.not_true,Bool.not_false,bne]
def sameF (a b:FRaw):Bool:=decide (a=b)
noncomputable def F_gSame:List Data→Option PRes:=FF (α:=Int × (List Int) × Int × (List Int) × Int × (List Int) × Int × (List Int)) (fun (s,l,s2,l2,s3,l3,s4,l4)=>([.agg [.int .i64 s,.sl (l.map i64L),.int .i64 s2,.sl (l2.map i64L)],.agg [.int .i64 s3,.sl (l3.map i64L),.int .i64 s4,.sl (l4.map i64L)]]:List Data)) (fun (s,l,s2,l2,s3,l3,s4,l4)=>onlyIf (l.length≤1000000∧l2.length≤1000000∧l3.length≤1000000∧l4.length≤1000000) (.same (.bool (sameF ((s,l),(s2,l2)) ((s3,l3),(s4,l4))))))
theorem F_gSame_inj:∀ a b:Int × (List Int) × Int × (List Int) × Int × (List Int) × Int × (List Int),(fun (s,l,s2,l2,s3,l3,s4,l4)=>([.agg [.int .i64 s,.sl (l.map i64L),.int .i64 s2,.sl (l2.map i64L)],.agg [.int .i64 s3,.sl (l3.map i64L),.int .i64 s4,.sl (l4.map i64L)]]:List Data)) a=(fun (s,l,s2,l2,s3,l3,s4,l4)=>([.agg [.int .i64 s,.sl (l.map i64L),.int .i64 s2,.sl (l2.map i64L)],.agg [.int .i64 s3,.sl (l3.map i64L),.int .i64 s4,.sl (l4.map i64L)]]:List Data)) b→a=b:=by
  rintro⟨s1,l1,s21,l21,s31,l31,s41,l41⟩ ⟨s2,l2,s22,l22,s32,l32,s42,l42⟩ h
  simp only[yM,Data.agg.injEq,Data.int.injEq,Data.sl.injEq] at h;exact Prod.ext h.1.1.2 (Prod.ext (map_inj i64L_inj _ _ h.1.2.1) (Prod.ext h.1.2.2.1.2 (Prod.ext (map_inj i64L_inj _ _ h.1.2.2.2.1) (Prod.ext h.2.1.1.2 (Prod.ext (map_inj i64L_inj _ _ h.2.1.2.1) (Prod.ext h.2.1.2.2.1.2 (map_inj i64L_inj _ _ h.2.1.2.2.2.1)))))))
@[go_sem] theorem F_gSame_eq (s:Int) (l:List Int) (s2:Int) (l2:List Int) (s3:Int) (l3:List Int) (s4:Int) (l4:List Int) (hc:l.length≤1000000∧l2.length≤1000000∧l3.length≤1000000∧l4.length≤1000000):F_gSame [.agg [.int .i64 s,.sl (l.map i64L),.int .i64 s2,.sl (l2.map i64L)],.agg [.int .i64 s3,.sl (l3.map i64L),.int .i64 s4,.sl (l4.map i64L)]]=some (.same (.bool (sameF ((s,l),(s2,l2)) ((s3,l3),(s4,l4))))):=(FF_eq F_gSame_inj (s,l,s2,l2,s3,l3,s4,l4)).trans (onlyIf_pos hc _)
theorem w_gSame (T:Tab) (h_gSameBig:T id_ref05_SameBig=mkE F_gSameBig) (s:Int) (l:List Int) (s2:Int) (l2:List Int) (s3:Int) (l3:List Int) (s4:Int) (l4:List Int) (hc:l.length≤1000000∧l2.length≤1000000∧l3.length≤1000000∧l4.length≤1000000) :
  wp T mf_ref05_Same.body (endS mf_ref05_Same.res (.same (.bool (sameF ((s,l),(s2,l2)) ((s3,l3),(s4,l4)))))) ⟨initTm [.dat (.agg [.int .i64 s,.sl (l.map i64L),.int .i64 s2,.sl (l2.map i64L)]),.dat (.agg [.int .i64 s3,.sl (l3.map i64L),.int .i64 s4,.sl (l4.map i64L)])],emp⟩:=by
 refine wp_start ?_
 simp only[mf_ref05_Same]
 obtain⟨hl1,hl2,hl3,hl4⟩:=hc
 have e:sameF ((s,l),(s2,l2)) ((s3,l3),(s4,l4))=(sameR (s,l) (s3,l3)&&sameR (s2,l2) (s4,l4)):=by
  unfold sameF sameR
  rw[Bool.eq_iff_iff,Bool.and_eq_true,decide_eq_true_eq,decide_eq_true_eq,decide_eq_true_eq,Prod.mk.injEq]
 rw[e]
 rcases h1:sameR (s,l) (s3,l3)
 ·simp only[go_sem,reduceIte,yA,yB,yC,yD,yE,yH,reduceCtorEq,yF,yG,yI,h_gSameBig,hl1,hl2,hl3,hl4,h1,Bool.false_and]
  repeat' (first|refine qqA ?_ ?_|refine qqB ?_ ?_|refine qqC ?_ ?_|refine qqD ?_ ?_|refine qqE ?_ ?_|refine qqF ?_ ?_)<;>intro h<;>simp only[h,go_sem,reduceIte,yA,yB,yC,yD,yE,yH,reduceCtorEq,yF,yG,yI,h_gSameBig,hl1,hl2,hl3,hl4,h1,Bool.false_and]
 ·simp only[go_sem,reduceIte,yA,yB,yC,yD,yE,yH,reduceCtorEq,yF,yG,yI,h_gSameBig,hl1,hl2,hl3,hl4,h1,Bool.true_and]
  repeat' (first|refine qqA ?_ ?_|refine qqB ?_ ?_|refine qqC ?_ ?_|refine qqD ?_ ?_|refine qqE ?_ ?_|refine qqF ?_ ?_)<;>intro h<;>simp only[h,go_sem,reduceIte,yA,yB,yC,yD,yE,yH,reduceCtorEq,yF,yG,yI,h_gSameBig,hl1,hl2,hl3,hl4,h1,Bool.true_and]
def fewF (f:FRaw) (n:Int):Bool:=decide ((f.1.2.length:Int)≤n)&&decide ((f.2.2.length:Int)≤n)
noncomputable def F_gFew:List Data→Option PRes:=FF (α:=Int × (List Int) × Int × (List Int) × Int) (fun (s,l,s2,l2,n)=>([.agg [.int .i64 s,.sl (l.map i64L),.int .i64 s2,.sl (l2.map i64L)],.int .i64 n]:List Data)) (fun (s,l,s2,l2,n)=>some (.same (.bool (fewF ((s,l),(s2,l2)) n))))
theorem F_gFew_inj:∀ a b:Int × (List Int) × Int × (List Int) × Int,(fun (s,l,s2,l2,n)=>([.agg [.int .i64 s,.sl (l.map i64L),.int .i64 s2,.sl (l2.map i64L)],.int .i64 n]:List Data)) a=(fun (s,l,s2,l2,n)=>([.agg [.int .i64 s,.sl (l.map i64L),.int .i64 s2,.sl (l2.map i64L)],.int .i64 n]:List Data)) b→a=b:=by
  rintro⟨s1,l1,s21,l21,n1⟩ ⟨s2,l2,s22,l22,n2⟩ h
  simp only[yM,Data.agg.injEq,Data.int.injEq,Data.sl.injEq] at h;exact Prod.ext h.1.1.2 (Prod.ext (map_inj i64L_inj _ _ h.1.2.1) (Prod.ext h.1.2.2.1.2 (Prod.ext (map_inj i64L_inj _ _ h.1.2.2.2.1) h.2.1.2)))
@[go_sem] theorem F_gFew_eq (s:Int) (l:List Int) (s2:Int) (l2:List Int) (n:Int):F_gFew [.agg [.int .i64 s,.sl (l.map i64L),.int .i64 s2,.sl (l2.map i64L)],.int .i64 n]=some (.same (.bool (fewF ((s,l),(s2,l2)) n))):=FF_eq F_gFew_inj (s,l,s2,l2,n)
theorem w_gFew (T:Tab)  (s:Int) (l:List Int) (s2:Int) (l2:List Int) (n:Int) :
  wp T mf_ref05_Few.body (endS mf_ref05_Few.res (.same (.bool (fewF ((s,l),(s2,l2)) n)))) ⟨initTm [.dat (.agg [.int .i64 s,.sl (l.map i64L),.int .i64 s2,.sl (l2.map i64L)]),.dat (.int .i64 n)],emp⟩:=by
 refine wp_start ?_
 simp only[mf_ref05_Few]
 unfold fewF
 rcases h1:decide ((l.length:Int)≤n)
 ·simp only[go_sem,reduceIte,yA,yB,yC,yD,yE,yH,reduceCtorEq,yF,yG,yI,h1,yJ,Bool.false_and]
  repeat' (first|refine qqA ?_ ?_|refine qqB ?_ ?_|refine qqC ?_ ?_|refine qqD ?_ ?_|refine qqE ?_ ?_|refine qqF ?_ ?_)<;>intro h<;>simp only[h,go_sem,reduceIte,yA,yB,yC,yD,yE,yH,reduceCtorEq,yF,yG,yI,h1,yJ,Bool.false_and]
 ·simp only[go_sem,reduceIte,yA,yB,yC,yD,yE,yH,reduceCtorEq,yF,yG,yI,h1,yJ,Bool.true_and]
  repeat' (first|refine qqA ?_ ?_|refine qqB ?_ ?_|refine qqC ?_ ?_|refine qqD ?_ ?_|refine qqE ?_ ?_|refine qqF ?_ ?_)<;>intro h<;>simp only[h,go_sem,reduceIte,yA,yB,yC,yD,yE,yH,reduceCtorEq,yF,yG,yI,h1,yJ,Bool.true_and]
noncomputable def F_gRight:List Data→Option PRes:=FF (α:=Int × (List Int) × Int × (List Int)) (fun (s,l,s2,l2)=>([.agg [.int .i64 s,.sl (l.map i64L),.int .i64 s2,.sl (l2.map i64L)]]:List Data)) (fun (s,l,s2,l2)=>onlyIf (l.length≤1000000∧l2.length≤1000000) (.same (.bool (rightF ((s,l),(s2,l2))))))
theorem F_gRight_inj:∀ a b:Int × (List Int) × Int × (List Int),(fun (s,l,s2,l2)=>([.agg [.int .i64 s,.sl (l.map i64L),.int .i64 s2,.sl (l2.map i64L)]]:List Data)) a=(fun (s,l,s2,l2)=>([.agg [.int .i64 s,.sl (l.map i64L),.int .i64 s2,.sl (l2.map i64L)]]:List Data)) b→a=b:=by
  rintro⟨s1,l1,s21,l21⟩ ⟨s2,l2,s22,l22⟩ h
  simp only[yM,Data.agg.injEq,Data.int.injEq,Data.sl.injEq] at h;exact Prod.ext h.1.1.2 (Prod.ext (map_inj i64L_inj _ _ h.1.2.1) (Prod.ext h.1.2.2.1.2 (map_inj i64L_inj _ _ h.1.2.2.2.1)))
@[go_sem] theorem F_gRight_eq (s:Int) (l:List Int) (s2:Int) (l2:List Int) (hc:l.length≤1000000∧l2.length≤1000000):F_gRight [.agg [.int .i64 s,.sl (l.map i64L),.int .i64 s2,.sl (l2.map i64L)]]=some (.same (.bool (rightF ((s,l),(s2,l2))))):=(FF_eq F_gRight_inj (s,l,s2,l2)).trans (onlyIf_pos hc _)
theorem w_gRight (T:Tab) (h_rRight:T id_ref04_Right=mkE F_rRight) (h_rGcd:T id_ref04_Gcd=mkE F_rGcd) (h_rOf:T id_ref04_Of=mkE F_rOf) (h_rCompare:T id_ref04_Compare=mkE F_rCompare) (s:Int) (l:List Int) (s2:Int) (l2:List Int) (hc:l.length≤1000000∧l2.length≤1000000) :
  wp T mf_ref05_Right.body (endS mf_ref05_Right.res (.same (.bool (rightF ((s,l),(s2,l2)))))) ⟨initTm [.dat (.agg [.int .i64 s,.sl (l.map i64L),.int .i64 s2,.sl (l2.map i64L)])],emp⟩:=by
 refine wp_start ?_
 simp only[mf_ref05_Right]
 obtain⟨hl1,hl2⟩:=hc
 by_cases hr:rightR (s,l)=true
 ·by_cases hr2:rightR (s2,l2)=true
  ·obtain⟨x,hx,e⟩:=(rightR_iff _).1 hr
   obtain⟨y,hy,e2⟩:=(rightR_iff _).1 hr2
   have hg:gcdR (s,l) (s2,l2)=(encB ((Nat.gcd x.natAbs y.natAbs:Nat):Int),0):=by
    unfold gcdR;rw[hr,hr2,e,e2,valB_enc,valB_enc];rfl
   have hgl:=gcd_lim hx hy
   have hv1:valB (s,l)=x:=by rw[e,valB_enc]
   have hv2:valB (s2,l2)=y:=by rw[e2,valB_enc]
   have hR:rightF ((s,l),(s2,l2))=((s2==1)&&(Nat.gcd x.natAbs y.natAbs==1)):=by
    show (rightR (s,l)&&(rightR (s2,l2)&&((s2==1)&&(Nat.gcd (valB (s,l)).natAbs (valB (s2,l2)).natAbs==1))))=_
    rw[hr,hr2,hv1,hv2]
    simp only[Bool.true_and]
   have hy1:s2=y.sign:=congrArg Prod.fst e2
   have hy2:=sign_abs y
   rw[hR]
   have hc1:cmpR (encB ((Nat.gcd x.natAbs y.natAbs:Nat):Int)) (encB 1)=cmpI ((Nat.gcd x.natAbs y.natAbs:Nat):Int) 1:=cmpR_enc (by rw[Int.natAbs_natCast];exact hgl) (lim_i64 (by unfold i64R;omega))
   have ho:(cmpI ((Nat.gcd x.natAbs y.natAbs:Nat):Int) 1==0)=(Nat.gcd x.natAbs y.natAbs==1):=by
    generalize Nat.gcd x.natAbs y.natAbs=G
    rw[Bool.eq_iff_iff,beq_iff_eq,beq_iff_eq]
    rcases Int.lt_trichotomy (G:Int) 1 with h | h | h
    ·rw[cmpI_lt h];omega
    ·rw[h,cmpI_eq];omega
    ·rw[cmpI_gt h];omega
   have hgl2:((encB ((Nat.gcd x.natAbs y.natAbs:Nat):Int)).2).length≤1000000:=len_ok (by rw[Int.natAbs_natCast];exact hgl)
   have hi1:i64R 1:=by unfold i64R;omega
   have hl1':(encB 1).2.length≤1000000:=len_ok (lim_i64 hi1)
   rcases hs:decide (s2<1)
   ·have hs1:(s2==1)=true:=by have:=of_decide_eq_false hs;rw[beq_iff_eq];omega
    rw[hs1,Bool.true_and,←ho]
    generalize cmpI ((Nat.gcd x.natAbs y.natAbs:Nat):Int) 1=C at *
    generalize encB ((Nat.gcd x.natAbs y.natAbs:Nat):Int)=G at *
    generalize hO:encB 1=O at *
    obtain⟨g1,g2⟩:=G
    obtain⟨o1,o2⟩:=O
    simp only[go_sem,reduceIte,yA,yB,yC,yD,yE,yH,reduceCtorEq,yF,yG,yI,h_rRight,h_rGcd,h_rOf,h_rCompare,hr,hr2,hl1,hl2,hs,hg,hgl2,hi1,hl1',hc1,hO,bigE,bigL]
    repeat' (first|refine qqA ?_ ?_|refine qqB ?_ ?_|refine qqC ?_ ?_|refine qqD ?_ ?_|refine qqE ?_ ?_|refine qqF ?_ ?_)<;>intro h<;>simp only[h,go_sem,reduceIte,yA,yB,yC,yD,yE,yH,reduceCtorEq,yF,yG,yI,h_rRight,h_rGcd,h_rOf,h_rCompare,hr,hr2,hl1,hl2,hs,hg,hgl2,hi1,hl1',hc1,hO,bigE,bigL]
   ·have hs1:(s2==1)=false:=by have:=of_decide_eq_true hs;rw[beq_eq_false_iff_ne];omega
    rw[hs1,Bool.false_and]
    simp only[go_sem,reduceIte,yA,yB,yC,yD,yE,yH,reduceCtorEq,yF,yG,yI,h_rRight,h_rGcd,h_rOf,h_rCompare,hr,hr2,hl1,hl2,hs]
    repeat' (first|refine qqA ?_ ?_|refine qqB ?_ ?_|refine qqC ?_ ?_|refine qqD ?_ ?_|refine qqE ?_ ?_|refine qqF ?_ ?_)<;>intro h<;>simp only[h,go_sem,reduceIte,yA,yB,yC,yD,yE,yH,reduceCtorEq,yF,yG,yI,h_rRight,h_rGcd,h_rOf,h_rCompare,hr,hr2,hl1,hl2,hs]
  ·have hr2:rightR (s2,l2)=false:=by simpa using hr2
   have hR:rightF ((s,l),(s2,l2))=false:=by unfold rightF;simp [hr2]
   rw[hR]
   simp only[go_sem,reduceIte,yA,yB,yC,yD,yE,yH,reduceCtorEq,yF,yG,yI,h_rRight,h_rGcd,h_rOf,h_rCompare,hr,hr2,hl1,hl2]
   repeat' (first|refine qqA ?_ ?_|refine qqB ?_ ?_|refine qqC ?_ ?_|refine qqD ?_ ?_|refine qqE ?_ ?_|refine qqF ?_ ?_)<;>intro h<;>simp only[h,go_sem,reduceIte,yA,yB,yC,yD,yE,yH,reduceCtorEq,yF,yG,yI,h_rRight,h_rGcd,h_rOf,h_rCompare,hr,hr2,hl1,hl2]
 ·have hr:rightR (s,l)=false:=by simpa using hr
  have hR:rightF ((s,l),(s2,l2))=false:=by unfold rightF;simp [hr]
  rw[hR]
  simp only[go_sem,reduceIte,yA,yB,yC,yD,yE,yH,reduceCtorEq,yF,yG,yI,h_rRight,h_rGcd,h_rOf,h_rCompare,hr,hl1,hl2]
  repeat' (first|refine qqA ?_ ?_|refine qqB ?_ ?_|refine qqC ?_ ?_|refine qqD ?_ ?_|refine qqE ?_ ?_|refine qqF ?_ ?_)<;>intro h<;>simp only[h,go_sem,reduceIte,yA,yB,yC,yD,yE,yH,reduceCtorEq,yF,yG,yI,h_rRight,h_rGcd,h_rOf,h_rCompare,hr,hl1,hl2]
end Go.Mini
