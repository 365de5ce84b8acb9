/- A part of the proof: MiniLin16, MiniKLaw06, MiniLw1, MiniLw2, MiniLw3, MiniRg1, MiniRg2, MiniRg3, MiniRg4, MiniRg5, MiniRg6. -/
import Derived.Test.YtjcpopjafedmpaaGreatM11
import Derived.Test.YtjcpopjafedmpaaGreatM04
import Derived.Test.YtjcpopjafedmpaaGreatM10
set_option linter.unusedSimpArgs false
set_option linter.unusedVariables false
open Nat renaming reduceEqDiff → yA, reduceAdd → yB, reduceSub → yC, reduceMul → yD, reduceLeDiff → yE, reduceLT → yF, reduceBEq → yG
open Bool renaming false_eq_true → yH
open Int renaming reduceEq → yI
open List renaming length_map → yJ, getElem?_map → yK, getElem?_eq_getElem → yL
open List.cons renaming injEq → yM
namespace Go.Mini
open Go
set_option maxRecDepth 10000
set_option maxHeartbeats 4000000
def sumGo:FRaw→List FRaw→List FRaw→Option FRaw
 | s,a::as,x::xs=>if ((mulF a x).2==0&&(addF s (mulF a x).1).2==0)=true then sumGo (addF s (mulF a x).1).1 as xs else none
 | s,_,_=>some s
def rowHolds (x:List FRaw) (r:RowD):Bool:=match sumGo zF r.1 x with
 | none=>false
 | some s=>cmpF s r.2==0
def checkX (rs:List RowD) (n:Int) (x:List FRaw):Bool:=rightS rs n&&(((x.length:Int)==n)&&(!(x.any badF)&&rs.all (rowHolds x)))
noncomputable def F_linCheck:List Data→Option PRes:=FF (α:=(List RowD) × Int × (List FRaw)) (fun (rs,n,x)=>([.sl (rs.map rowL),.int .i64 n,.sl (x.map fracL)]:List Data)) (fun (rs,n,x)=>onlyIf (okRows rs∧okL x) (.same (.bool (checkX rs n x))))
theorem F_linCheck_inj:∀ a b:(List RowD) × Int × (List FRaw),(fun (rs,n,x)=>([.sl (rs.map rowL),.int .i64 n,.sl (x.map fracL)]:List Data)) a=(fun (rs,n,x)=>([.sl (rs.map rowL),.int .i64 n,.sl (x.map fracL)]:List Data)) b→a=b:=by
  rintro⟨rs1,n1,x1⟩ ⟨rs2,n2,x2⟩ h
  simp only[yM,Data.sl.injEq,Data.int.injEq] at h;exact Prod.ext (map_inj rowL_inj _ _ h.1) (Prod.ext h.2.1.2 (map_inj fracL_inj _ _ h.2.2.1))
@[go_sem] theorem F_linCheck_eq (rs:List RowD) (n:Int) (x:List FRaw) (hc:okRows rs∧okL x):F_linCheck [.sl (rs.map rowL),.int .i64 n,.sl (x.map fracL)]=some (.same (.bool (checkX rs n x))):=(FF_eq F_linCheck_inj (rs,n,x)).trans (onlyIf_pos hc _)
theorem w_linCheck (T:Tab) (h_linRight:T id_linear_Right=mkE F_linRight) (h_anyFrac:T id_slices_ContainsFunc_Frac=mkE F_anyFrac) (h_fOf:T id_frac_Of=mkE F_fOf) (h_fMul:T id_frac_Mul=mkE F_fMul) (h_fAdd:T id_frac_Add=mkE F_fAdd) (h_fCompare:T id_frac_Compare=mkE F_fCompare) (rs:List RowD) (n:Int) (x:List FRaw) (hc:okRows rs∧okL x) :
  wp T mf_linear_Check.body (endS mf_linear_Check.res (.same (.bool (checkX rs n x)))) ⟨initTm [.dat (.sl (rs.map rowL)),.dat (.int .i64 n),.dat (.sl (x.map fracL))],emp⟩:=by
 refine wp_start ?_
 simp only[mf_linear_Check]
 obtain⟨hc,hx⟩:=hc
 unfold checkX
 rcases hr:rightS rs n
 ·simp only[go_sem,reduceIte,yA,yB,yC,yD,yE,yH,reduceCtorEq,yF,yG,yI,h_linRight,h_anyFrac,h_fOf,h_fMul,h_fAdd,h_fCompare,hc,hr,yJ]
  repeat' (first|refine qqA ?_ ?_|refine qqB ?_ ?_|refine qqC ?_ ?_|refine qqD ?_ ?_|refine qqE ?_ ?_|refine qqF ?_ ?_)<;>intro h<;>simp only[h,go_sem,reduceIte,yA,yB,yC,yD,yE,yH,reduceCtorEq,yF,yG,yI,h_linRight,h_anyFrac,h_fOf,h_fMul,h_fAdd,h_fCompare,hc,hr,yJ]
 ·rcases hxl:((x.length:Int)==n)
  ·simp only[go_sem,reduceIte,yA,yB,yC,yD,yE,yH,reduceCtorEq,yF,yG,yI,h_linRight,h_anyFrac,h_fOf,h_fMul,h_fAdd,h_fCompare,hc,hr,hxl,yJ]
   repeat' (first|refine qqA ?_ ?_|refine qqB ?_ ?_|refine qqC ?_ ?_|refine qqD ?_ ?_|refine qqE ?_ ?_|refine qqF ?_ ?_)<;>intro h<;>simp only[h,go_sem,reduceIte,yA,yB,yC,yD,yE,yH,reduceCtorEq,yF,yG,yI,h_linRight,h_anyFrac,h_fOf,h_fMul,h_fAdd,h_fCompare,hc,hr,hxl,yJ]
  ·have hany:=F_anyFrac_eq x id_linear_Check_1 ⟨hx,.inr rfl⟩
   rcases hxa:x.any badF
   ·rw[hxa] at hany
    have hz:=F_fOf_eq 0 1 ⟨by unfold i64R;omega,by unfold i64R;omega⟩
    rw[new_zero] at hz
    simp only[fracE,fracL,zF,List.map_nil,List.map_cons,i64L] at hz
    obtain⟨hn,hN,hrs⟩:=rightS_ok hc hr
    have hxn:x.length=rs.length:=by have:=beq_iff_eq.1 hxl;omega
    simp only[go_sem,reduceIte,yA,yB,yC,yD,yE,yH,reduceCtorEq,yF,yG,yI,h_linRight,h_anyFrac,h_fOf,h_fMul,h_fAdd,h_fCompare,hc,hr,hxl,hany,yJ]
    refine wp_loop_keep [2,31,32] [] (fun (i:Nat) tm m=>i≤rs.length∧rs.all (rowHolds x)=(rs.drop i).all (rowHolds x)∧tm 33 = .dat (.int .i64 i)) (fun i=>rs.length-i) 0 (by refine⟨Nat.zero_le _,rfl,rfl⟩) ?_
    intro vs ms hvs hms
    simp only[go_sem,reduceIte,yA,yB,yC,yD,yE,yH,reduceCtorEq,yF,yG,yI,h_linRight,h_anyFrac,h_fOf,h_fMul,h_fAdd,h_fCompare,yJ] at hvs hms
    subst hvs hms
    rintro i tm m hk hm ⟨hiN,hall,h33⟩
    simp only[go_sem,reduceIte,yA,yB,yC,yD,yE,yH,reduceCtorEq,yF,yG,yI,h_linRight,h_anyFrac,h_fOf,h_fMul,h_fAdd,h_fCompare,yM] at hk hm
    obtain⟨h2,h31,h32⟩:=hk
    rcases Decidable.em (i<rs.length) with hlt | hge
    ·obtain⟨⟨A,⟨v1,v2⟩,⟨v3,v4⟩⟩,hri⟩:∃ r,rs[i]?=some r:=⟨_,yL (by omega)⟩
     obtain⟨hAl,⟨hAL,hAo⟩,hV1,hV2⟩:=hrs _ (List.mem_of_getElem? hri)
     dsimp only at hAl hAL hAo hV1 hV2
     have hdrop:rs.drop i=(A,((v1,v2),(v3,v4)))::rs.drop (i+1):=by
      obtain⟨hl,e⟩:=List.getElem?_eq_some_iff.1 hri
      rw[List.drop_eq_getElem_cons hl,e]
     rw[hdrop,List.all_cons] at hall
     have hil:decide ((i:Int)<(rs.length:Int))=true:=decide_eq_true (by omega)
     have hw:IntKind.i64.wrap ((i:Int)+1)=((i+1:Nat):Int):=by rw[wrap64 _ (by omega) (by omega)];omega
     simp only[go_sem,reduceIte,yA,yB,yC,yD,yE,yH,reduceCtorEq,yF,yG,yI,h_linRight,h_anyFrac,h_fOf,h_fMul,h_fAdd,h_fCompare,h2,h31,h32,h33,hri,hil,hz,hw,rowL,fracL,yJ,yK]
     refine wp_loop_keep [2,8,9,31,32,33,42,43] [111008] (fun ((k,s):Nat × FRaw) tm' m'=>k≤A.length∧okF s∧sumGo zF A x=sumGo s (A.drop k) (x.drop k)∧tm' 44 = .dat (.int .i64 k)∧m' 111009=some (nextO (m 111009),fracM s)) (fun (k,_)=>A.length-k) (0,zF) (by refine⟨Nat.zero_le _,⟨by simp [zF],by simp [zF]⟩,rfl,rfl,?_⟩;simp [updM,fracM,zF,i64L]) ?_
     intro vs ms hvs hms
     simp only[go_sem,reduceIte,yA,yB,yC,yD,yE,yH,reduceCtorEq,yF,yG,yI,h_linRight,h_anyFrac,h_fOf,h_fMul,h_fAdd,h_fCompare,h2,h31,h32,h33] at hvs hms
     subst hvs hms
     rintro⟨k,⟨⟨s1,s2⟩,⟨s3,s4⟩⟩⟩ tm2 m2 hk2 hm2 ⟨hkA,⟨hs1,hs2⟩,hsum,h44,hm9⟩
     simp only[go_sem,reduceIte,yA,yB,yC,yD,yE,yH,reduceCtorEq,yF,yG,yI,h_linRight,h_anyFrac,h_fOf,h_fMul,h_fAdd,h_fCompare,yM] at hk2 hm2
     obtain⟨k2,k8,k9,k31,k32,k33,k42,k43⟩:=hk2
     simp only[fracM] at hm9
     dsimp only at hs1 hs2
     rcases Decidable.em (k<A.length) with hklt | hkge
     ·obtain⟨⟨⟨a1,a2⟩,⟨a3,a4⟩⟩,hak⟩:∃ f,A[k]?=some f:=⟨_,yL (by omega)⟩
      obtain⟨⟨⟨x1,x2⟩,⟨x3,x4⟩⟩,hxk⟩:∃ f,x[k]?=some f:=⟨_,yL (by omega)⟩
      have hao:=hAo _ (List.mem_of_getElem? hak)
      have hxo:=hx.2 _ (List.mem_of_getElem? hxk)
      have hd1:A.drop k=((a1,a2),(a3,a4))::A.drop (k+1):=by
       obtain⟨hl,e⟩:=List.getElem?_eq_some_iff.1 hak
       rw[List.drop_eq_getElem_cons hl,e]
      have hd2:x.drop k=((x1,x2),(x3,x4))::x.drop (k+1):=by
       obtain⟨hl,e⟩:=List.getElem?_eq_some_iff.1 hxk
       rw[List.drop_eq_getElem_cons hl,e]
      rw[hd1,hd2] at hsum
      simp only[sumGo] at hsum
      have hmo:=okF_mul ((a1,a2),(a3,a4)) ((x1,x2),(x3,x4))
      have hso:=okF_add ((s1,s2),(s3,s4)) (mulF ((a1,a2),(a3,a4)) ((x1,x2),(x3,x4))).1
      generalize hM:mulF ((a1,a2),(a3,a4)) ((x1,x2),(x3,x4))=M at *
      obtain⟨⟨⟨u1,u2⟩,⟨u3,u4⟩⟩,e1⟩:=M
      dsimp only at hmo hso hsum
      generalize hS:addF ((s1,s2),(s3,s4)) ((u1,u2),(u3,u4))=S at *
      obtain⟨⟨⟨w1,w2⟩,⟨w3,w4⟩⟩,e2⟩:=S
      dsimp only at hso hsum
      have hkl:decide ((k:Int)<(A.length:Int))=true:=decide_eq_true (by omega)
      have hwk:IntKind.i64.wrap ((k:Int)+1)=((k+1:Nat):Int):=by rw[wrap64 _ (by omega) (by omega)];omega
      rcases he1:(e1==0)
      ·rw[he1] at hsum
       simp only[Bool.false_and,yH,if_false] at hsum
       have hrh:rowHolds x (A,((v1,v2),(v3,v4)))=false:=by unfold rowHolds;rw[hsum]
       rw[hrh,Bool.false_and] at hall
       rw[hall]
       simp only[go_sem,reduceIte,yA,yB,yC,yD,yE,yH,reduceCtorEq,yF,yG,yI,h_linRight,h_anyFrac,h_fOf,h_fMul,h_fAdd,h_fCompare,k2,k8,k9,k31,k32,k33,k42,k43,h44,hm9,hm2,hak,hxk,hM,hS,hkl,hao.1,hao.2,hxo.1,hxo.2,hs1,hs2,hmo.1,hmo.2,he1,fracE,fracL,yJ,yK,ne_eq,not_false_eq_true,and_self,decide_true,decide_false]
       repeat' (first|refine qqA ?_ ?_|refine qqB ?_ ?_|refine qqC ?_ ?_|refine qqD ?_ ?_|refine qqE ?_ ?_|refine qqF ?_ ?_)<;>intro h<;>simp only[h,go_sem,reduceIte,yA,yB,yC,yD,yE,yH,reduceCtorEq,yF,yG,yI,h_linRight,h_anyFrac,h_fOf,h_fMul,h_fAdd,h_fCompare,k2,k8,k9,k31,k32,k33,k42,k43,h44,hm9,hm2,hak,hxk,hM,hS,hkl,hao.1,hao.2,hxo.1,hxo.2,hs1,hs2,hmo.1,hmo.2,he1,fracE,fracL,yJ,yK,ne_eq,not_false_eq_true,and_self,decide_true,decide_false]
      ·rcases he2:(e2==0)
       ·rw[he1,he2] at hsum
        simp only[Bool.and_false,yH,if_false] at hsum
        have hrh:rowHolds x (A,((v1,v2),(v3,v4)))=false:=by unfold rowHolds;rw[hsum]
        rw[hrh,Bool.false_and] at hall
        rw[hall]
        simp only[go_sem,reduceIte,yA,yB,yC,yD,yE,yH,reduceCtorEq,yF,yG,yI,h_linRight,h_anyFrac,h_fOf,h_fMul,h_fAdd,h_fCompare,k2,k8,k9,k31,k32,k33,k42,k43,h44,hm9,hm2,hak,hxk,hM,hS,hkl,hao.1,hao.2,hxo.1,hxo.2,hs1,hs2,hmo.1,hmo.2,he1,he2,fracE,fracL,yJ,yK,ne_eq,not_false_eq_true,and_self,decide_true,decide_false]
        repeat' (first|refine qqA ?_ ?_|refine qqB ?_ ?_|refine qqC ?_ ?_|refine qqD ?_ ?_|refine qqE ?_ ?_|refine qqF ?_ ?_)<;>intro h<;>simp only[h,go_sem,reduceIte,yA,yB,yC,yD,yE,yH,reduceCtorEq,yF,yG,yI,h_linRight,h_anyFrac,h_fOf,h_fMul,h_fAdd,h_fCompare,k2,k8,k9,k31,k32,k33,k42,k43,h44,hm9,hm2,hak,hxk,hM,hS,hkl,hao.1,hao.2,hxo.1,hxo.2,hs1,hs2,hmo.1,hmo.2,he1,he2,fracE,fracL,yJ,yK,ne_eq,not_false_eq_true,and_self,decide_true,decide_false]
       ·rw[he1,he2] at hsum
        simp only[Bool.and_self,if_true] at hsum
        simp only[go_sem,reduceIte,yA,yB,yC,yD,yE,yH,reduceCtorEq,yF,yG,yI,h_linRight,h_anyFrac,h_fOf,h_fMul,h_fAdd,h_fCompare,k2,k8,k9,k31,k32,k33,k42,k43,h44,hm9,hm2,hak,hxk,hM,hS,hkl,hwk,hao.1,hao.2,hxo.1,hxo.2,hs1,hs2,hmo.1,hmo.2,he1,he2,fracE,fracL,yJ,yK,ne_eq,not_false_eq_true,and_self,decide_true,decide_false]
        repeat' (first|refine qqA ?_ ?_|refine qqB ?_ ?_|refine qqC ?_ ?_|refine qqD ?_ ?_|refine qqE ?_ ?_|refine qqF ?_ ?_)<;>intro h<;>simp only[h,go_sem,reduceIte,yA,yB,yC,yD,yE,yH,reduceCtorEq,yF,yG,yI,h_linRight,h_anyFrac,h_fOf,h_fMul,h_fAdd,h_fCompare,k2,k8,k9,k31,k32,k33,k42,k43,h44,hm9,hm2,hak,hxk,hM,hS,hkl,hwk,hao.1,hao.2,hxo.1,hxo.2,hs1,hs2,hmo.1,hmo.2,he1,he2,fracE,fracL,yJ,yK,ne_eq,not_false_eq_true,and_self,decide_true,decide_false]
        exact⟨(k+1,((w1,w2),(w3,w4))),by dsimp only;omega,by dsimp only;omega,hso,hsum,rfl,rfl⟩
     ·have hkl:decide ((k:Int)<(A.length:Int))=false:=decide_eq_false (by omega)
      have hdn:A.drop k=[]:=List.drop_eq_nil_of_le (by omega)
      rw[hdn] at hsum
      simp only[sumGo] at hsum
      have hrh:rowHolds x (A,((v1,v2),(v3,v4)))=(cmpF ((s1,s2),(s3,s4)) ((v1,v2),(v3,v4))==0):=by unfold rowHolds;rw[hsum]
      rw[hrh] at hall
      rcases hcm:(cmpF ((s1,s2),(s3,s4)) ((v1,v2),(v3,v4))==0)
      ·rw[hcm,Bool.false_and] at hall
       rw[hall]
       simp only[go_sem,reduceIte,yA,yB,yC,yD,yE,yH,reduceCtorEq,yF,yG,yI,h_linRight,h_anyFrac,h_fOf,h_fMul,h_fAdd,h_fCompare,k2,k8,k9,k31,k32,k33,k42,k43,h44,hm9,hm2,hkl,hs1,hs2,hV1,hV2,hcm,hw,fracE,fracL,yJ,yK]
       repeat' (first|refine qqA ?_ ?_|refine qqB ?_ ?_|refine qqC ?_ ?_|refine qqD ?_ ?_|refine qqE ?_ ?_|refine qqF ?_ ?_)<;>intro h<;>simp only[h,go_sem,reduceIte,yA,yB,yC,yD,yE,yH,reduceCtorEq,yF,yG,yI,h_linRight,h_anyFrac,h_fOf,h_fMul,h_fAdd,h_fCompare,k2,k8,k9,k31,k32,k33,k42,k43,h44,hm9,hm2,hkl,hs1,hs2,hV1,hV2,hcm,hw,fracE,fracL,yJ,yK]
      ·rw[hcm,Bool.true_and] at hall
       simp only[go_sem,reduceIte,yA,yB,yC,yD,yE,yH,reduceCtorEq,yF,yG,yI,h_linRight,h_anyFrac,h_fOf,h_fMul,h_fAdd,h_fCompare,k2,k8,k9,k31,k32,k33,k42,k43,h44,hm9,hm2,hkl,hs1,hs2,hV1,hV2,hcm,hw,fracE,fracL,yJ,yK]
       repeat' (first|refine qqA ?_ ?_|refine qqB ?_ ?_|refine qqC ?_ ?_|refine qqD ?_ ?_|refine qqE ?_ ?_|refine qqF ?_ ?_)<;>intro h<;>simp only[h,go_sem,reduceIte,yA,yB,yC,yD,yE,yH,reduceCtorEq,yF,yG,yI,h_linRight,h_anyFrac,h_fOf,h_fMul,h_fAdd,h_fCompare,k2,k8,k9,k31,k32,k33,k42,k43,h44,hm9,hm2,hkl,hs1,hs2,hV1,hV2,hcm,hw,fracE,fracL,yJ,yK]
       exact⟨i+1,by omega,by omega,hall,rfl⟩
    ·have hil:decide ((i:Int)<(rs.length:Int))=false:=decide_eq_false (by omega)
     have hdn:rs.drop i=[]:=List.drop_eq_nil_of_le (by omega)
     rw[hdn] at hall
     rw[hall]
     simp only[go_sem,reduceIte,yA,yB,yC,yD,yE,yH,reduceCtorEq,yF,yG,yI,h_linRight,h_anyFrac,h_fOf,h_fMul,h_fAdd,h_fCompare,h2,h31,h32,h33,hil,List.all_nil]
     repeat' (first|refine qqA ?_ ?_|refine qqB ?_ ?_|refine qqC ?_ ?_|refine qqD ?_ ?_|refine qqE ?_ ?_|refine qqF ?_ ?_)<;>intro h<;>simp only[h,go_sem,reduceIte,yA,yB,yC,yD,yE,yH,reduceCtorEq,yF,yG,yI,h_linRight,h_anyFrac,h_fOf,h_fMul,h_fAdd,h_fCompare,h2,h31,h32,h33,hil,List.all_nil]
   ·rw[hxa] at hany
    simp only[go_sem,reduceIte,yA,yB,yC,yD,yE,yH,reduceCtorEq,yF,yG,yI,h_linRight,h_anyFrac,h_fOf,h_fMul,h_fAdd,h_fCompare,hc,hr,hxl,hany,yJ]
    repeat' (first|refine qqA ?_ ?_|refine qqB ?_ ?_|refine qqC ?_ ?_|refine qqD ?_ ?_|refine qqE ?_ ?_|refine qqF ?_ ?_)<;>intro h<;>simp only[h,go_sem,reduceIte,yA,yB,yC,yD,yE,yH,reduceCtorEq,yF,yG,yI,h_linRight,h_anyFrac,h_fOf,h_fMul,h_fAdd,h_fCompare,hc,hr,hxl,hany,yJ]
end Go.Mini
namespace Go.Mini
open Go
def mf_law06_small:MFunc :=
 { n:=106,np:=0,res:=[.t 0],body :=
 (.seq (.ops [
 ⟨some 0,none,.mv (.c (.dat (.bool false)))⟩])
 (.seq (.ops [
 ⟨some 16,none,.bsl 105016 false [(.dat (.int .i64 0)),(.dat (.int .i64 0))] 1 2 [(0,1,(.c (.dat (.int .i64 2)))),(1,1,(.c (.dat (.int .i64 1))))]⟩,⟨some 17,none,.call id_law06_row [(.t 16)]⟩,⟨some 18,none,.bsl 105018 false [.nil,(.dat (.int .i64 0)),.nil,(.dat (.int .i64 0)),.nil] 5 1 [(0,5,(.t 17))]⟩,⟨some 19,none,.call id_linear_Solve [(.t 18),(.c (.dat (.int .i64 1)))]⟩,⟨some 15,none,.mv (.t 19)⟩,⟨some 20,none,.ext 0 (.t 15)⟩,⟨some 21,none,.ext 1 (.t 15)⟩,⟨some 1,none,.mv (.t 20)⟩,⟨some 2,none,.mv (.t 21)⟩])
 (.seq (.ops [
 ⟨some 23,none,.bsl 105023 false [(.dat (.int .i64 0)),(.dat (.int .i64 0)),(.dat (.int .i64 0))] 1 3 [(0,1,(.c (.dat (.int .i64 1)))),(1,1,(.c (.dat (.int .i64 1)))),(2,1,(.c (.dat (.int .i64 3))))]⟩,⟨some 24,none,.call id_law06_row [(.t 23)]⟩,⟨some 25,none,.bsl 105025 false [(.dat (.int .i64 0)),(.dat (.int .i64 0)),(.dat (.int .i64 0))] 1 3 [(0,1,(.c (.dat (.int .i64 1)))),(1,1,(.c (.dat (.int .i64 (-1))))),(2,1,(.c (.dat (.int .i64 1))))]⟩,⟨some 26,none,.call id_law06_row [(.t 25)]⟩,⟨some 27,none,.bsl 105027 false [.nil,(.dat (.int .i64 0)),.nil,(.dat (.int .i64 0)),.nil,.nil,(.dat (.int .i64 0)),.nil,(.dat (.int .i64 0)),.nil] 5 2 [(0,5,(.t 24)),(5,5,(.t 26))]⟩,⟨some 28,none,.call id_linear_Solve [(.t 27),(.c (.dat (.int .i64 2)))]⟩,⟨some 22,none,.mv (.t 28)⟩,⟨some 29,none,.ext 0 (.t 22)⟩,⟨some 30,none,.ext 1 (.t 22)⟩,⟨some 3,none,.mv (.t 29)⟩,⟨some 4,none,.mv (.t 30)⟩])
 (.seq (.ops [
 ⟨some 31,none,.bsl 105031 false [(.dat (.int .i64 0)),(.dat (.int .i64 0)),(.dat (.int .i64 0))] 1 3 [(0,1,(.c (.dat (.int .i64 1)))),(1,1,(.c (.dat (.int .i64 2)))),(2,1,(.c (.dat (.int .i64 1))))]⟩,⟨some 32,none,.call id_law06_row [(.t 31)]⟩,⟨some 33,none,.bsl 105033 false [(.dat (.int .i64 0)),(.dat (.int .i64 0)),(.dat (.int .i64 0))] 1 3 [(0,1,(.c (.dat (.int .i64 2)))),(1,1,(.c (.dat (.int .i64 4)))),(2,1,(.c (.dat (.int .i64 5))))]⟩,⟨some 34,none,.call id_law06_row [(.t 33)]⟩,⟨some 35,none,.bsl 105035 false [.nil,(.dat (.int .i64 0)),.nil,(.dat (.int .i64 0)),.nil,.nil,(.dat (.int .i64 0)),.nil,(.dat (.int .i64 0)),.nil] 5 2 [(0,5,(.t 32)),(5,5,(.t 34))]⟩,⟨some 5,none,.mv (.t 35)⟩])
 (.seq (.ops [
 ⟨some 37,none,.mv (.t 5)⟩,⟨some 38,none,.call id_linear_Solve [(.t 37),(.c (.dat (.int .i64 2)))]⟩,⟨some 36,none,.mv (.t 38)⟩,⟨some 39,none,.ext 0 (.t 36)⟩,⟨some 40,none,.ext 1 (.t 36)⟩,⟨some 6,none,.mv (.t 39)⟩,⟨some 7,none,.mv (.t 40)⟩])
 (.seq (.ops [
 ⟨some 42,none,.mv (.t 5)⟩,⟨some 43,none,.call id_linear_Kernel [(.t 42),(.c (.dat (.int .i64 2)))]⟩,⟨some 41,none,.mv (.t 43)⟩,⟨some 44,none,.ext 0 (.t 41)⟩,⟨some 45,none,.ext 1 (.t 41)⟩,⟨some 8,none,.mv (.t 44)⟩,⟨some 9,none,.mv (.t 45)⟩])
 (.seq (.ops [
 ⟨some 47,none,.mv (.t 5)⟩,⟨some 48,none,.call id_linear_Rank [(.t 47),(.c (.dat (.int .i64 2)))]⟩,⟨some 46,none,.mv (.t 48)⟩,⟨some 49,none,.ext 0 (.t 46)⟩,⟨some 50,none,.ext 1 (.t 46)⟩,⟨some 10,none,.mv (.t 49)⟩,⟨some 11,none,.mv (.t 50)⟩])
 (.seq (.ops [
 ⟨some 52,none,.call id_ref05_Of [(.c (.dat (.int .i64 1))),(.c (.dat (.int .i64 2)))]⟩,⟨some 51,none,.mv (.t 52)⟩,⟨some 53,none,.ext 0 (.t 51)⟩,⟨some 54,none,.ext 1 (.t 51)⟩,⟨some 12,none,.alloc 105012 [(.dat (.int .i64 0)),.nil,(.dat (.int .i64 0)),.nil]⟩,⟨none,none,.store 4 (.t 12) (.t 53)⟩,⟨some 13,none,.mv (.t 54)⟩])
 (.seq (.ops [
 ⟨some 55,none,.mv (.t 1)⟩,⟨some 56,none,.load 4 true (.t 12)⟩,⟨some 57,none,.bsl 105057 false [(.dat (.int .i64 0)),.nil,(.dat (.int .i64 0)),.nil] 4 1 [(0,4,(.t 56))]⟩,⟨some 58,none,.call id_ref06_Same [(.t 55),(.t 57)]⟩,⟨some 59,none,.mv (.t 58)⟩,⟨some 60,some (59,true),.mv (.t 2)⟩,⟨some 61,some (59,true),.bin .eql (.t 60) (.c (.dat (.int .i64 0)))⟩,⟨some 62,none,.pick (.t 59) (.t 61) (.c (.dat (.bool false)))⟩,⟨some 63,none,.mv (.t 62)⟩,⟨some 64,some (63,true),.mv (.t 3)⟩,⟨some 65,some (63,true),.call id_law06_number [(.c (.dat (.int .i64 2)))]⟩,⟨some 66,some (63,true),.call id_law06_number [(.c (.dat (.int .i64 1)))]⟩,⟨some 67,some (63,true),.bsl 105067 false [(.dat (.int .i64 0)),.nil,(.dat (.int .i64 0)),.nil,(.dat (.int .i64 0)),.nil,(.dat (.int .i64 0)),.nil] 4 2 [(0,4,(.t 65)),(4,4,(.t 66))]⟩,⟨some 68,some (63,true),.call id_ref06_Same [(.t 64),(.t 67)]⟩,⟨some 69,none,.pick (.t 63) (.t 68) (.c (.dat (.bool false)))⟩,⟨some 70,none,.mv (.t 69)⟩,⟨some 71,some (70,true),.mv (.t 4)⟩,⟨some 72,some (70,true),.bin .eql (.t 71) (.c (.dat (.int .i64 0)))⟩,⟨some 73,none,.pick (.t 70) (.t 72) (.c (.dat (.bool false)))⟩,⟨some 14,none,.mv (.t 73)⟩])
 (.seq (.ops [
 ⟨some 74,none,.mv (.t 14)⟩,⟨some 75,none,.mv (.t 74)⟩,⟨some 76,some (75,true),.mv (.t 7)⟩,⟨some 77,some (75,true),.bin .eql (.t 76) (.c (.dat (.int .i64 17)))⟩,⟨some 78,none,.pick (.t 75) (.t 77) (.c (.dat (.bool false)))⟩,⟨some 79,none,.mv (.t 78)⟩,⟨some 80,some (79,true),.mv (.t 9)⟩,⟨some 81,none,.pick (.t 79) (.t 80) (.c (.dat (.bool false)))⟩,⟨some 82,none,.mv (.t 81)⟩,⟨some 83,some (82,true),.mv (.t 8)⟩,⟨some 84,some (82,true),.call id_law06_number [(.c (.dat (.int .i64 (-2))))]⟩,⟨some 85,some (82,true),.call id_law06_number [(.c (.dat (.int .i64 1)))]⟩,⟨some 86,some (82,true),.bsl 105086 false [(.dat (.int .i64 0)),.nil,(.dat (.int .i64 0)),.nil,(.dat (.int .i64 0)),.nil,(.dat (.int .i64 0)),.nil] 4 2 [(0,4,(.t 84)),(4,4,(.t 85))]⟩,⟨some 87,some (82,true),.call id_ref06_Same [(.t 83),(.t 86)]⟩,⟨some 88,none,.pick (.t 82) (.t 87) (.c (.dat (.bool false)))⟩,⟨some 89,none,.mv (.t 88)⟩,⟨some 90,some (89,true),.mv (.t 10)⟩,⟨some 91,some (89,true),.bin .eql (.t 90) (.c (.dat (.int .i64 1)))⟩,⟨some 92,none,.pick (.t 89) (.t 91) (.c (.dat (.bool false)))⟩,⟨some 93,none,.mv (.t 92)⟩,⟨some 94,some (93,true),.mv (.t 11)⟩,⟨some 95,some (93,true),.bin .eql (.t 94) (.c (.dat (.int .i64 0)))⟩,⟨some 96,none,.pick (.t 93) (.t 95) (.c (.dat (.bool false)))⟩,⟨some 97,none,.mv (.t 96)⟩,⟨some 98,some (97,true),.mv (.t 5)⟩,⟨some 99,some (97,true),.mv (.t 8)⟩,⟨some 100,some (97,true),.call id_linear_Check [(.t 98),(.c (.dat (.int .i64 2))),(.t 99)]⟩,⟨some 101,some (97,true),.beq false (.t 100) (.c (.dat (.bool false)))⟩,⟨some 102,none,.pick (.t 97) (.t 101) (.c (.dat (.bool false)))⟩,⟨some 103,none,.mv (.t 102)⟩,⟨some 104,some (103,true),.call id_linear_Right [(.c .nil),(.c (.dat (.int .i64 0)))]⟩,⟨some 105,none,.pick (.t 103) (.t 104) (.c (.dat (.bool false)))⟩,⟨some 0,none,.mv (.t 105)⟩])
 .ret)))))))))) }
def mf_law06_number:MFunc :=
 { n:=11,np:=1,res:=[.cell 2 4 true],body :=
 (.seq (.ops [
 ⟨some 2,none,.alloc 122002 [(.dat (.int .i64 0)),.nil,(.dat (.int .i64 0)),.nil]⟩])
 (.seq (.ops [
 ⟨some 6,none,.mv (.t 0)⟩,⟨some 7,none,.call id_ref05_Of [(.t 6),(.c (.dat (.int .i64 1)))]⟩,⟨some 5,none,.mv (.t 7)⟩,⟨some 8,none,.ext 0 (.t 5)⟩,⟨some 9,none,.ext 1 (.t 5)⟩,⟨some 3,none,.alloc 122003 [(.dat (.int .i64 0)),.nil,(.dat (.int .i64 0)),.nil]⟩,⟨none,none,.store 4 (.t 3) (.t 8)⟩,⟨some 4,none,.mv (.t 9)⟩])
 (.seq (.ops [
 ⟨some 10,none,.load 4 true (.t 3)⟩,⟨none,none,.store 4 (.t 2) (.t 10)⟩])
 .ret))) }
def mf_law06_row:MFunc :=
 { n:=31,np:=1,res:=[.cell 2 5 true],body :=
 (.seq (.ops [
 ⟨some 2,none,.alloc 123002 [.nil,(.dat (.int .i64 0)),.nil,(.dat (.int .i64 0)),.nil]⟩])
 (.seq (.ops [
 ⟨some 3,none,.alloc 123003 [.nil,(.dat (.int .i64 0)),.nil,(.dat (.int .i64 0)),.nil]⟩])
 (.seq (.seq (.ops [
 ⟨some 4,none,.mv (.c (.dat (.int .i64 0)))⟩])
 (.block 0
 (.loop
 (.seq (.seq (.ops [
 ⟨some 5,none,.mv (.t 4)⟩,⟨some 6,none,.mv (.t 0)⟩,⟨some 7,none,.len (.t 6)⟩,⟨some 8,none,.bin .sub (.t 7) (.c (.dat (.int .i64 1)))⟩,⟨some 9,none,.bin .lss (.t 5) (.t 8)⟩])
 (.cond (.t 9)
 .skip
 (.exit 0)))
 (.seq (.block 1
 (.opsD [
 ⟨some 12,none,.fad 0 (.t 3)⟩,⟨some 13,none,.load 1 false (.t 12)⟩,⟨some 14,none,.mv (.t 0)⟩,⟨some 15,none,.mv (.t 4)⟩,⟨some 16,none,.iad 1 (.t 14) (.t 15)⟩,⟨some 17,none,.load 1 false (.t 16)⟩,⟨some 18,none,.call id_law06_number [(.t 17)]⟩,⟨some 19,none,.bsl 123019 false [(.dat (.int .i64 0)),.nil,(.dat (.int .i64 0)),.nil] 4 1 [(0,4,(.t 18))]⟩,⟨some 20,none,.app 123020 [(.dat (.int .i64 0)),.nil,(.dat (.int .i64 0)),.nil] 64 (.t 13) (.t 19)⟩,⟨some 21,none,.fad 0 (.t 3)⟩,⟨none,none,.store 1 (.t 21) (.t 20)⟩] [[],[],[],[],[],[],[],[],[],[],[]]))
 (.ops [
 ⟨some 10,none,.mv (.t 4)⟩,⟨some 11,none,.bin .add (.t 10) (.c (.dat (.int .i64 1)))⟩,⟨some 4,none,.mv (.t 11)⟩]))))))
 (.seq (.ops [
 ⟨some 22,none,.mv (.t 0)⟩,⟨some 23,none,.mv (.t 0)⟩,⟨some 24,none,.len (.t 23)⟩,⟨some 25,none,.bin .sub (.t 24) (.c (.dat (.int .i64 1)))⟩,⟨some 26,none,.iad 1 (.t 22) (.t 25)⟩,⟨some 27,none,.load 1 false (.t 26)⟩,⟨some 28,none,.call id_law06_number [(.t 27)]⟩,⟨some 29,none,.fad 1 (.t 3)⟩,⟨none,none,.store 4 (.t 29) (.t 28)⟩])
 (.seq (.ops [
 ⟨some 30,none,.load 5 true (.t 3)⟩,⟨none,none,.store 5 (.t 2) (.t 30)⟩])
 .ret))))) }
def mf_law06_LinearTells:MFunc :=
 { n:=117,np:=3,res:=[.t 6],body :=
 (.seq (.ops [
 ⟨some 6,none,.mv (.c (.dat (.bool false)))⟩])
 (.seq (.ops [
 ⟨some 20,none,.call id_law06_small []⟩,⟨some 7,none,.mv (.t 20)⟩])
 (.seq (.seq (.ops [
 ⟨some 21,none,.mv (.t 0)⟩,⟨some 22,none,.call id_ref06_Few [(.t 21),(.c (.dat (.int .i64 5))),(.c (.dat (.int .i64 2)))]⟩,⟨some 23,none,.un .not (.t 22)⟩,⟨some 24,none,.mv (.t 23)⟩,⟨some 25,some (24,false),.mv (.t 2)⟩,⟨some 26,some (24,false),.call id_ref06_FewFracs [(.t 25),(.c (.dat (.int .i64 5))),(.c (.dat (.int .i64 2)))]⟩,⟨some 27,some (24,false),.un .not (.t 26)⟩,⟨some 28,none,.pick (.t 24) (.c (.dat (.bool true))) (.t 27)⟩])
 (.cond (.t 28)
 (.seq (.ops [
 ⟨some 29,none,.mv (.t 7)⟩,⟨some 6,none,.mv (.t 29)⟩])
 .ret)
 .skip))
 (.seq (.ops [
 ⟨some 31,none,.mv (.t 0)⟩,⟨some 32,none,.mv (.t 1)⟩,⟨some 33,none,.call id_linear_Solve [(.t 31),(.t 32)]⟩,⟨some 30,none,.mv (.t 33)⟩,⟨some 34,none,.ext 0 (.t 30)⟩,⟨some 35,none,.ext 1 (.t 30)⟩,⟨some 8,none,.mv (.t 34)⟩,⟨some 9,none,.mv (.t 35)⟩])
 (.seq (.ops [
 ⟨some 37,none,.mv (.t 0)⟩,⟨some 38,none,.mv (.t 1)⟩,⟨some 39,none,.call id_ref06_Solve [(.t 37),(.t 38)]⟩,⟨some 36,none,.mv (.t 39)⟩,⟨some 40,none,.ext 0 (.t 36)⟩,⟨some 41,none,.ext 1 (.t 36)⟩,⟨some 10,none,.mv (.t 40)⟩,⟨some 11,none,.mv (.t 41)⟩])
 (.seq (.ops [
 ⟨some 43,none,.mv (.t 0)⟩,⟨some 44,none,.mv (.t 1)⟩,⟨some 45,none,.call id_linear_Kernel [(.t 43),(.t 44)]⟩,⟨some 42,none,.mv (.t 45)⟩,⟨some 46,none,.ext 0 (.t 42)⟩,⟨some 47,none,.ext 1 (.t 42)⟩,⟨some 12,none,.mv (.t 46)⟩,⟨some 13,none,.mv (.t 47)⟩])
 (.seq (.ops [
 ⟨some 49,none,.mv (.t 0)⟩,⟨some 50,none,.mv (.t 1)⟩,⟨some 51,none,.call id_ref06_Kernel [(.t 49),(.t 50)]⟩,⟨some 48,none,.mv (.t 51)⟩,⟨some 52,none,.ext 0 (.t 48)⟩,⟨some 53,none,.ext 1 (.t 48)⟩,⟨some 14,none,.mv (.t 52)⟩,⟨some 15,none,.mv (.t 53)⟩])
 (.seq (.ops [
 ⟨some 55,none,.mv (.t 0)⟩,⟨some 56,none,.mv (.t 1)⟩,⟨some 57,none,.call id_linear_Rank [(.t 55),(.t 56)]⟩,⟨some 54,none,.mv (.t 57)⟩,⟨some 58,none,.ext 0 (.t 54)⟩,⟨some 59,none,.ext 1 (.t 54)⟩,⟨some 16,none,.mv (.t 58)⟩,⟨some 17,none,.mv (.t 59)⟩])
 (.seq (.ops [
 ⟨some 61,none,.mv (.t 0)⟩,⟨some 62,none,.mv (.t 1)⟩,⟨some 63,none,.call id_ref06_Rank [(.t 61),(.t 62)]⟩,⟨some 60,none,.mv (.t 63)⟩,⟨some 64,none,.ext 0 (.t 60)⟩,⟨some 65,none,.ext 1 (.t 60)⟩,⟨some 18,none,.mv (.t 64)⟩,⟨some 19,none,.mv (.t 65)⟩])
 (.seq (.ops [
 ⟨some 66,none,.mv (.t 7)⟩,⟨some 67,none,.mv (.t 66)⟩,⟨some 68,some (67,true),.mv (.t 0)⟩,⟨some 69,some (67,true),.mv (.t 1)⟩,⟨some 70,some (67,true),.call id_linear_Right [(.t 68),(.t 69)]⟩,⟨some 71,some (67,true),.mv (.t 0)⟩,⟨some 72,some (67,true),.mv (.t 1)⟩,⟨some 73,some (67,true),.call id_ref06_Right [(.t 71),(.t 72)]⟩,⟨some 74,some (67,true),.beq false (.t 70) (.t 73)⟩,⟨some 75,none,.pick (.t 67) (.t 74) (.c (.dat (.bool false)))⟩,⟨some 76,none,.mv (.t 75)⟩,⟨some 77,some (76,true),.mv (.t 8)⟩,⟨some 78,some (76,true),.mv (.t 10)⟩,⟨some 79,some (76,true),.call id_ref06_Same [(.t 77),(.t 78)]⟩,⟨some 80,none,.pick (.t 76) (.t 79) (.c (.dat (.bool false)))⟩,⟨some 81,none,.mv (.t 80)⟩,⟨some 82,some (81,true),.mv (.t 9)⟩,⟨some 83,some (81,true),.mv (.t 11)⟩,⟨some 84,some (81,true),.bin .eql (.t 82) (.t 83)⟩,⟨some 85,none,.pick (.t 81) (.t 84) (.c (.dat (.bool false)))⟩,⟨some 86,none,.mv (.t 85)⟩,⟨some 87,some (86,true),.mv (.t 12)⟩,⟨some 88,some (86,true),.mv (.t 14)⟩,⟨some 89,some (86,true),.call id_ref06_Same [(.t 87),(.t 88)]⟩,⟨some 90,none,.pick (.t 86) (.t 89) (.c (.dat (.bool false)))⟩,⟨some 91,none,.mv (.t 90)⟩,⟨some 92,some (91,true),.mv (.t 13)⟩,⟨some 93,some (91,true),.mv (.t 15)⟩,⟨some 94,some (91,true),.beq false (.t 92) (.t 93)⟩,⟨some 95,none,.pick (.t 91) (.t 94) (.c (.dat (.bool false)))⟩,⟨some 96,none,.mv (.t 95)⟩,⟨some 97,some (96,true),.mv (.t 16)⟩,⟨some 98,some (96,true),.mv (.t 18)⟩,⟨some 99,some (96,true),.bin .eql (.t 97) (.t 98)⟩,⟨some 100,none,.pick (.t 96) (.t 99) (.c (.dat (.bool false)))⟩,⟨some 101,none,.mv (.t 100)⟩,⟨some 102,some (101,true),.mv (.t 17)⟩,⟨some 103,some (101,true),.mv (.t 19)⟩,⟨some 104,some (101,true),.bin .eql (.t 102) (.t 103)⟩,⟨some 105,none,.pick (.t 101) (.t 104) (.c (.dat (.bool false)))⟩,⟨some 106,none,.mv (.t 105)⟩,⟨some 107,some (106,true),.mv (.t 0)⟩,⟨some 108,some (106,true),.mv (.t 1)⟩,⟨some 109,some (106,true),.mv (.t 2)⟩,⟨some 110,some (106,true),.call id_linear_Check [(.t 107),(.t 108),(.t 109)]⟩,⟨some 111,some (106,true),.mv (.t 0)⟩,⟨some 112,some (106,true),.mv (.t 1)⟩,⟨some 113,some (106,true),.mv (.t 2)⟩,⟨some 114,some (106,true),.call id_ref06_Check [(.t 111),(.t 112),(.t 113)]⟩,⟨some 115,some (106,true),.beq false (.t 110) (.t 114)⟩,⟨some 116,none,.pick (.t 106) (.t 115) (.c (.dat (.bool false)))⟩,⟨some 6,none,.mv (.t 116)⟩])
 .ret)))))))))) }
end Go.Mini
namespace Go.Mini
open Go
set_option maxRecDepth 10000
set_option maxHeartbeats 4000000
def numF (n:Int):FRaw:=encR (n:Rat)
theorem newR_num {n:Int} (h:i64R n):newR (encB n) (encB 1)=(numF n,0):=by
 rw[newR_enc (lim_i64 h) (lim_i64 (by unfold i64R;omega)) (by omega)]
 exact Prod.ext (congrArg encR (Rat.num_divInt_den (n:Rat))) rfl
theorem numF_len {n:Int} (h:i64R n):(numF n).1.2.length≤1000000∧(numF n).2.2.length≤1000000:=by
 have h1:=newR_num h
 have h2:=okF_new (encB n) (encB 1)
 rw[h1] at h2
 exact h2
theorem okF_num {n:Int} (h:i64R n):okF (numF n):=numF_len h
noncomputable def F_wnum:List Data→Option PRes:=FF (α:=Int) (fun (n:Int)=>([.int .i64 n]:List Data)) (fun (n:Int)=>onlyIf (i64R n) (.same (.agg (fracL (numF n)))))
theorem F_wnum_inj:∀ a b:Int,(fun (n:Int)=>([.int .i64 n]:List Data)) a=(fun (n:Int)=>([.int .i64 n]:List Data)) b→a=b:=by
  intro n1 n2 h
  simp only[yM,Data.int.injEq,Data.agg.injEq,Data.sl.injEq,Data.bool.injEq,Data.str.injEq,Data.ptr.injEq,Data.tup.injEq,Prod.mk.injEq,true_and,and_true] at h ⊢
  first | exact h | simpa [Prod.ext_iff,and_assoc] using h | grind
@[go_sem] theorem F_wnum_eq (n:Int) (hc:i64R n):F_wnum [.int .i64 n]=some (.same (.agg (fracL (numF n)))):=(FF_eq F_wnum_inj n).trans (onlyIf_pos hc _)
theorem w_wnum (T:Tab) (h_gOf:T id_ref05_Of=mkE F_gOf) (n:Int) (hc:i64R n) :
  wp T mf_law06_number.body (endS mf_law06_number.res (.same (.agg (fracL (numF n))))) ⟨initTm [.dat (.int .i64 n)],emp⟩:=by
 refine wp_start ?_
 simp only[mf_law06_number]
 have h1:i64R 1:=by unfold i64R;omega
 have hF:=F_gOf_eq n 1 ⟨hc,h1⟩
 rw[newR_num hc] at hF
 simp only[fracE,fracL] at hF
 simp only[go_sem,reduceIte,yA,yB,yC,yD,yE,yH,reduceCtorEq,yF,yG,yI,h_gOf,hF,fracL]
 repeat' (first|refine qqA ?_ ?_|refine qqB ?_ ?_|refine qqC ?_ ?_|refine qqD ?_ ?_|refine qqE ?_ ?_|refine qqF ?_ ?_)<;>intro h<;>simp only[h,go_sem,reduceIte,yA,yB,yC,yD,yE,yH,reduceCtorEq,yF,yG,yI,h_gOf,hF,fracL]
def rowOf (l:List Int):RowD:=(l.dropLast.map numF,numF (l.getLastD 0))
theorem rowOf_at {l:List Int} {i:Nat} {x:Int} (hx:l[i]?=some x) (h:i+1<l.length):(l.take (i+1)).map numF=(l.take i).map numF++[numF x]:=by
 rw[List.take_add_one,hx,List.map_append]
 rfl
noncomputable def F_wrow:List Data→Option PRes:=FF (α:=List Int) (fun (l:List Int)=>([.sl (l.map i64L)]:List Data)) (fun (l:List Int)=>onlyIf (2≤l.length∧l.length≤1000∧∀ x∈l,i64R x) (.same (.agg (rowL (rowOf l)))))
theorem F_wrow_inj:∀ a b:List Int,(fun (l:List Int)=>([.sl (l.map i64L)]:List Data)) a=(fun (l:List Int)=>([.sl (l.map i64L)]:List Data)) b→a=b:=by
  intro l1 l2 h
  exact map_inj i64L_inj _ _ (by simpa using h)
@[go_sem] theorem F_wrow_eq (l:List Int) (hc:2≤l.length∧l.length≤1000∧∀ x∈l,i64R x):F_wrow [.sl (l.map i64L)]=some (.same (.agg (rowL (rowOf l)))):=(FF_eq F_wrow_inj l).trans (onlyIf_pos hc _)
theorem w_wrow (T:Tab) (h_wnum:T id_law06_number=mkE F_wnum) (l:List Int) (hc:2≤l.length∧l.length≤1000∧∀ x∈l,i64R x) :
  wp T mf_law06_row.body (endS mf_law06_row.res (.same (.agg (rowL (rowOf l))))) ⟨initTm [.dat (.sl (l.map i64L))],emp⟩:=by
 refine wp_start ?_
 simp only[mf_law06_row]
 obtain⟨hl,hlm,hlr⟩:=hc
 have hw0:IntKind.i64.wrap ((l.length:Int)-1)=((l.length-1:Nat):Int):=by rw[wrap64 _ (by omega) (by omega)];omega
 simp only[go_sem,reduceIte,yA,yB,yC,yD,yE,yH,reduceCtorEq,yF,yG,yI,h_wnum,yJ]
 refine wp_loop_keep [0,2,3] [123002] (fun ((i,g):Nat × Nat) tm mem=>i≤l.length-1∧tm 4 = .dat (.int .i64 i)∧(i=0→mem 123003=some (0,[.nil,.dat (.int .i64 0),.nil,.dat (.int .i64 0),.nil]))∧(0<i→mem 123003=some (0,[.ref 123020 g 4 0 i,.dat (.int .i64 0),.nil,.dat (.int .i64 0),.nil])∧mem 123020=some (g,rowE fracL ((l.take i).map numF)))) (fun (i,_)=>l.length-1-i) (0,0) (by refine⟨Nat.zero_le _,rfl,fun _=>rfl,fun h=>absurd h (by omega)⟩) ?_
 intro vs ms hvs hms
 simp only[go_sem,reduceIte,yA,yB,yC,yD,yE,yH,reduceCtorEq,yF,yG,yI,h_wnum,yJ] at hvs hms
 subst hvs hms
 rintro⟨i,g⟩ tm mem hk hm ⟨hi,h4,hz,hp⟩
 simp only[go_sem,reduceIte,yA,yB,yC,yD,yE,yH,reduceCtorEq,yF,yG,yI,h_wnum,yM] at hk hm
 obtain⟨h0,h2,h3⟩:=hk
 rcases Decidable.em (i<l.length-1) with hlt | hge
 ·obtain⟨x,hx⟩:∃ x,l[i]?=some x:=⟨_,yL (by omega)⟩
  have hxr:i64R x:=hlr x (List.mem_of_getElem? hx)
  have d1:decide ((i:Int)<((l.length-1:Nat):Int))=true:=decide_eq_true (by omega)
  have w3:IntKind.i64.wrap ((i:Int)+1)=((i+1:Nat):Int):=by rw[wrap64 _ (by omega) (by omega)];omega
  have hmx:(1≤maxLen)=True:=eq_true (by unfold maxLen;omega)
  have hnx:=rowOf_at hx (by omega)
  rcases hnf:numF x with ⟨⟨a,b⟩,⟨c,d⟩⟩
  rw[hnf] at hnx
  rcases Nat.eq_zero_or_pos i with h0' | hpos
  ·have hm3:=hz h0'
   have hnx0:=hnx
   rw[h0'] at hnx0
   simp only[List.take_zero,List.map_nil,List.nil_append] at hnx0
   simp only[go_sem,reduceIte,yA,yB,yC,yD,yE,yH,reduceCtorEq,yF,yG,yI,h_wnum,h0,h2,h3,h4,hm,hm3,hx,hxr,hnf,d1,w3,hw0,hmx,fracL,i64L,yJ,yK]
   repeat' (first|refine qqA ?_ ?_|refine qqB ?_ ?_|refine qqC ?_ ?_|refine qqD ?_ ?_|refine qqE ?_ ?_|refine qqF ?_ ?_)<;>intro h<;>simp only[h,go_sem,reduceIte,yA,yB,yC,yD,yE,yH,reduceCtorEq,yF,yG,yI,h_wnum,h0,h2,h3,h4,hm,hm3,hx,hxr,hnf,d1,w3,hw0,hmx,fracL,i64L,yJ,yK]
   exact⟨(i+1,nextO (mem 123020)),by dsimp only;omega,by dsimp only;omega,rfl,fun h=>by dsimp only at h;omega,fun _=>⟨by rw[h0'],by dsimp only;rw[h0',hnx0];rfl⟩⟩
  ·obtain⟨hm3,hm20⟩:=hp hpos
   have htl:((l.take i).map numF).length=i:=by rw[yJ,List.length_take];omega
   have hap:=app_row fracL_len fracL_one 123020 g 64 ((l.take i).map numF) ((a,b),(c,d)) (cs:=[.dat (.int .i64 a),.dat (.sl (b.map i64L)),.dat (.int .i64 c),.dat (.sl (d.map i64L))]) rfl (by omega) (by omega)
   rw[htl,←hnx] at hap
   simp only[go_sem,reduceIte,yA,yB,yC,yD,yE,yH,reduceCtorEq,yF,yG,yI,h_wnum,h0,h2,h3,h4,hm,hm3,hm20,hx,hxr,hnf,d1,w3,hw0,hmx,hap,fracL,i64L,yJ,yK]
   repeat' (first|refine qqA ?_ ?_|refine qqB ?_ ?_|refine qqC ?_ ?_|refine qqD ?_ ?_|refine qqE ?_ ?_|refine qqF ?_ ?_)<;>intro h<;>simp only[h,go_sem,reduceIte,yA,yB,yC,yD,yE,yH,reduceCtorEq,yF,yG,yI,h_wnum,h0,h2,h3,h4,hm,hm3,hm20,hx,hxr,hnf,d1,w3,hw0,hmx,hap,fracL,i64L,yJ,yK]
   exact⟨(i+1,g+1),by dsimp only;omega,by dsimp only;omega,rfl,fun h=>by dsimp only at h;omega,fun _=>⟨rfl,rfl⟩⟩
 ·obtain rfl:i=l.length-1:=by omega
  obtain⟨hm3,hm20⟩:=hp (by omega)
  have d1:decide (((l.length-1:Nat):Int)<((l.length-1:Nat):Int))=false:=decide_eq_false (by omega)
  obtain⟨x,hx⟩:∃ x,l[l.length-1]?=some x:=⟨_,yL (by omega)⟩
  have hxr:i64R x:=hlr x (List.mem_of_getElem? hx)
  have hrow:rowOf l=((l.take (l.length-1)).map numF,numF x):=by
   unfold rowOf
   rw[List.dropLast_eq_take,List.getLastD_eq_getLast?,List.getLast?_eq_getElem?,hx]
   rfl
  have hD:∀ n (m:Mem),m 123020=some (g,rowE fracL ((l.take (l.length-1)).map numF))→toD (n+1) m (.ref 123020 g 4 0 (l.length-1))=some (.sl (((l.take (l.length-1)).map numF).map fracL)):=fun n m hm=>by
   have:=toD_row (n:=n) fracL_len hm
   rw[show ((l.take (l.length-1)).map numF).length=l.length-1 by rw[yJ,List.length_take];omega] at this
   exact this
  rcases hnf:numF x with ⟨⟨a,b⟩,⟨c,d⟩⟩
  rw[hrow,hnf]
  simp only[go_sem,reduceIte,yA,yB,yC,yD,yE,yH,reduceCtorEq,yF,yG,yI,h_wnum,h0,h2,h3,h4,hm,hm3,hx,hxr,hnf,d1,hw0,fracL,i64L,rowL,yJ,yK]
  repeat' (first|refine qqA ?_ ?_|refine qqB ?_ ?_|refine qqC ?_ ?_|refine qqD ?_ ?_|refine qqE ?_ ?_|refine qqF ?_ ?_)<;>intro h<;>simp only[h,go_sem,reduceIte,yA,yB,yC,yD,yE,yH,reduceCtorEq,yF,yG,yI,h_wnum,h0,h2,h3,h4,hm,hm3,hx,hxr,hnf,d1,hw0,fracL,i64L,rowL,yJ,yK]
  rw[hD 4 _ (by simp [updM,hm20])]
  rfl
end Go.Mini
namespace Go.Mini
open Go
set_option maxRecDepth 10000
set_option maxHeartbeats 4000000
theorem rowL_one (r:RowD):((rowL r).map MV.dat).all MV.one=true:=rfl
def homog (rs:List RowD):List RowD:=rs.map fun r=>(r.1,numF 0)
theorem numF_zero:numF 0=zF:=encR_zero
theorem i64_0:i64R 0:=by unfold i64R;omega
/-- All operations on a row's elements succeed. -/
def timesOK (r:RowD) (f:FRaw):Prop:=(∀ a∈r.1,(mulF a f).2=0)∧(mulF r.2 f).2=0
def timesX (r:RowD) (f:FRaw):RowD:=(r.1.map fun a=>(mulF a f).1,(mulF r.2 f).1)
def plusOK (r r2:RowD):Prop:=r.1.length=r2.1.length∧(∀ (i:Nat) a b,r.1[i]?=some a→r2.1[i]?=some b→(addF a b).2=0)∧(addF r.2 r2.2).2=0
def plusX (r r2:RowD):RowD:=(List.zipWith (fun a b=>(addF a b).1) r.1 r2.1,(addF r.2 r2.2).1)
end Go.Mini
namespace Go.Mini
open Go
set_option maxRecDepth 100000
set_option maxHeartbeats 4000000
theorem okRows_dec {rs:List RowD} (h:(decide (rs.length≤1000000)&&rs.all fun r=>(decide (r.1.length≤1000000)&&r.1.all fun f=>decide (f.1.2.length≤1000000)&&decide (f.2.2.length≤1000000))&&(decide (r.2.1.2.length≤1000000)&&decide (r.2.2.2.length≤1000000)))=true):okRows rs:=by
 simp only[Bool.and_eq_true,decide_eq_true_eq,List.all_eq_true] at h
 exact⟨h.1,fun r hr=>⟨⟨(h.2 r hr).1.1,fun f hf=>(h.2 r hr).1.2 f hf⟩,(h.2 r hr).2⟩⟩
noncomputable def F_wsmall:List Data→Option PRes:=FF (α:=Unit) (fun (_:Unit)=>([]:List Data)) (fun (_:Unit)=>some (.same (.bool true)))
theorem F_wsmall_inj:∀ a b:Unit,(fun (_:Unit)=>([]:List Data)) a=(fun (_:Unit)=>([]:List Data)) b→a=b:=by
  intro _ _ _;rfl
@[go_sem] theorem F_wsmall_eq :F_wsmall []=some (.same (.bool true)):=FF_eq F_wsmall_inj ()
theorem w_wsmall (T:Tab) (h_wrow:T id_law06_row=mkE F_wrow) (h_wnum:T id_law06_number=mkE F_wnum) (h_linSolve:T id_linear_Solve=mkE F_linSolve) (h_linKern:T id_linear_Kernel=mkE F_linKern) (h_linRank:T id_linear_Rank=mkE F_linRank) (h_linCheck:T id_linear_Check=mkE F_linCheck) (h_linRight:T id_linear_Right=mkE F_linRight) (h_gOf:T id_ref05_Of=mkE F_gOf) (h_hSame:T id_ref06_Same=mkE F_hSame)  :
  wp T mf_law06_small.body (endS mf_law06_small.res (.same (.bool true))) ⟨initTm [],emp⟩:=by
 refine wp_start ?_
 simp only[mf_law06_small]
 have i64s:∀ x:Int,-10≤x∧x≤10→i64R x:=fun x h=>by unfold i64R;omega
 have r1:=F_wrow_eq [2,1] ⟨by decide,by decide,fun x hx=>i64s x (by simp at hx;omega)⟩
 have r2:=F_wrow_eq [1,1,3] ⟨by decide,by decide,fun x hx=>i64s x (by simp at hx;omega)⟩
 have r3:=F_wrow_eq [1,-1,1] ⟨by decide,by decide,fun x hx=>i64s x (by simp at hx;omega)⟩
 have r4:=F_wrow_eq [1,2,1] ⟨by decide,by decide,fun x hx=>i64s x (by simp at hx;omega)⟩
 have r5:=F_wrow_eq [2,4,5] ⟨by decide,by decide,fun x hx=>i64s x (by simp at hx;omega)⟩
 have e1:rowOf [2,1]=([((1,[2]),(1,[1]))],((1,[1]),(1,[1]))):=by decide +kernel
 have e2:rowOf [1,1,3]=([((1,[1]),(1,[1])),((1,[1]),(1,[1]))],((1,[3]),(1,[1]))):=by decide +kernel
 have e3:rowOf [1,-1,1]=([((1,[1]),(1,[1])),((-1,[1]),(1,[1]))],((1,[1]),(1,[1]))):=by decide +kernel
 have e4:rowOf [1,2,1]=([((1,[1]),(1,[1])),((1,[2]),(1,[1]))],((1,[1]),(1,[1]))):=by decide +kernel
 have e5:rowOf [2,4,5]=([((1,[2]),(1,[1])),((1,[4]),(1,[1]))],((1,[5]),(1,[1]))):=by decide +kernel
 have s1:=F_linSolve_eq [rowOf [2,1]] 1 (okRows_dec (by decide +kernel))
 have s2:=F_linSolve_eq [rowOf [1,1,3],rowOf [1,-1,1]] 2 (okRows_dec (by decide +kernel))
 have s3:=F_linSolve_eq [rowOf [1,2,1],rowOf [2,4,5]] 2 (okRows_dec (by decide +kernel))
 have k3:=F_linKern_eq [rowOf [1,2,1],rowOf [2,4,5]] 2 (okRows_dec (by decide +kernel))
 have a3:=F_linRank_eq [rowOf [1,2,1],rowOf [2,4,5]] 2 (okRows_dec (by decide +kernel))
 have kx:kernX [rowOf [1,2,1],rowOf [2,4,5]] 2=([((-1,[2]),(1,[1])),((1,[1]),(1,[1]))],true):=by decide +kernel
 have okk:okL [((-1,[2]),(1,[1])),((1,[1]),(1,[1]))]:=⟨by decide,fun f hf=>by simp at hf;rcases hf with rfl | rfl<;>exact⟨by decide,by decide⟩⟩
 have c3:=F_linCheck_eq [rowOf [1,2,1],rowOf [2,4,5]] 2 [((-1,[2]),(1,[1])),((1,[1]),(1,[1]))] ⟨okRows_dec (by decide +kernel),okk⟩
 have g0:=F_linRight_eq [] 0 (okRows_dec (by decide +kernel))
 rw[show solveX [rowOf [2,1]] 1=([((1,[1]),(1,[2]))],0) by decide +kernel] at s1
 rw[show solveX [rowOf [1,1,3],rowOf [1,-1,1]] 2=([((1,[2]),(1,[1])),((1,[1]),(1,[1]))],0) by decide +kernel] at s2
 rw[show solveX [rowOf [1,2,1],rowOf [2,4,5]] 2=([],17) by decide +kernel] at s3
 rw[kx] at k3
 rw[show rankX [rowOf [1,2,1],rowOf [2,4,5]] 2=(1,0) by decide +kernel] at a3
 rw[show checkX [rowOf [1,2,1],rowOf [2,4,5]] 2 [((-1,[2]),(1,[1])),((1,[1]),(1,[1]))]=false by decide +kernel] at c3
 rw[show rightS [] 0=true by decide +kernel] at g0
 rw[e1] at r1 s1
 rw[e2] at r2 s2
 rw[e3] at r3 s2
 rw[e4] at r4 s3 k3 a3 c3
 rw[e5] at r5 s3 k3 a3 c3
 have n2:=F_wnum_eq 2 (i64s 2 (by omega))
 have n1:=F_wnum_eq 1 (i64s 1 (by omega))
 have nm:=F_wnum_eq (-2) (i64s (-2) (by omega))
 rw[show numF 2=((1,[2]),(1,[1])) by decide +kernel] at n2
 rw[show numF 1=((1,[1]),(1,[1])) by decide +kernel] at n1
 rw[show numF (-2)=((-1,[2]),(1,[1])) by decide +kernel] at nm
 have hh:=F_gOf_eq 1 2 ⟨i64s 1 (by omega),i64s 2 (by omega)⟩
 rw[show newR (encB 1) (encB 2)=(((1,[1]),(1,[2])),0) by decide +kernel] at hh
 have okh:okL [((1,[1]),(1,[2]))]:=⟨by decide,fun f hf=>by simp at hf;rcases hf with rfl;exact⟨by decide,by decide⟩⟩
 have ok2:okL [((1,[2]),(1,[1])),((1,[1]),(1,[1]))]:=⟨by decide,fun f hf=>by simp at hf;rcases hf with rfl | rfl<;>exact⟨by decide,by decide⟩⟩
 have q1:=F_hSame_eq [((1,[1]),(1,[2]))] [((1,[1]),(1,[2]))] ⟨okh,okh⟩
 have q2:=F_hSame_eq [((1,[2]),(1,[1])),((1,[1]),(1,[1]))] [((1,[2]),(1,[1])),((1,[1]),(1,[1]))] ⟨ok2,ok2⟩
 have q3:=F_hSame_eq [((-1,[2]),(1,[1])),((1,[1]),(1,[1]))] [((-1,[2]),(1,[1])),((1,[1]),(1,[1]))] ⟨okk,okk⟩
 rw[show sameFs [((1,[1]),(1,[2]))] [((1,[1]),(1,[2]))]=true from decide_eq_true rfl] at q1
 rw[show sameFs [((1,[2]),(1,[1])),((1,[1]),(1,[1]))] [((1,[2]),(1,[1])),((1,[1]),(1,[1]))]=true from decide_eq_true rfl] at q2
 rw[show sameFs [((-1,[2]),(1,[1])),((1,[1]),(1,[1]))] [((-1,[2]),(1,[1])),((1,[1]),(1,[1]))]=true from decide_eq_true rfl] at q3
 clear e1 e2 e3 e4 e5 kx
 simp only[rowL,fracL,fracE,i64L,List.map_cons,List.map_nil] at r1 r2 r3 r4 r5 s1 s2 s3 k3 a3 c3 g0 n1 n2 nm hh q1 q2 q3
 simp only[go_sem,reduceIte,yA,yB,yC,yD,yE,yH,reduceCtorEq,yF,yG,yI,h_wrow,h_wnum,h_linSolve,h_linKern,h_linRank,h_linCheck,h_linRight,h_gOf,h_hSame,r1,r2,r3,r4,r5,s1,s2,s3,k3,a3,c3,g0,n1,n2,nm,hh,q1,q2,q3,beq_self_eq_true]
end Go.Mini
namespace Go.Mini
open Go
set_option maxRecDepth 10000
set_option maxHeartbeats 4000000
noncomputable def F_eRight:List Data→Option PRes:=FF (α:=(List RowD) × Int) (fun (rs,n)=>([.sl (rs.map rowL),.int .i64 n]:List Data)) (fun (rs,n)=>onlyIf (okRows rs) (.same (.bool (rightS rs n))))
theorem F_eRight_inj:∀ a b:(List RowD) × Int,(fun (rs,n)=>([.sl (rs.map rowL),.int .i64 n]:List Data)) a=(fun (rs,n)=>([.sl (rs.map rowL),.int .i64 n]:List Data)) b→a=b:=by
  rintro⟨rs1,n1⟩ ⟨rs2,n2⟩ h
  simp only[yM,Data.sl.injEq,Data.int.injEq] at h;exact Prod.ext (map_inj rowL_inj _ _ h.1) h.2.1.2
@[go_sem] theorem F_eRight_eq (rs:List RowD) (n:Int) (hc:okRows rs):F_eRight [.sl (rs.map rowL),.int .i64 n]=some (.same (.bool (rightS rs n))):=(FF_eq F_eRight_inj (rs,n)).trans (onlyIf_pos hc _)
theorem w_eRight (T:Tab) (h_gRight:T id_ref05_Right=mkE F_gRight) (rs:List RowD) (n:Int) (hc:okRows rs) :
  wp T mf_ref06_Right.body (endS mf_ref06_Right.res (.same (.bool (rightS rs n)))) ⟨initTm [.dat (.sl (rs.map rowL)),.dat (.int .i64 n)],emp⟩:=by
 refine wp_start ?_
 simp only[mf_ref06_Right]
 rcases h1:decide (n<0)
 case true =>
  have hr:rightS rs n=false:=by unfold rightS;rw[h1];rfl
  rw[hr]
  simp only[go_sem,reduceIte,yA,yB,yC,yD,yE,yH,reduceCtorEq,yF,yG,yI,h_gRight,h1,yJ]
  repeat' (first|refine qqA ?_ ?_|refine qqB ?_ ?_|refine qqC ?_ ?_|refine qqD ?_ ?_|refine qqE ?_ ?_|refine qqF ?_ ?_)<;>intro h<;>simp only[h,go_sem,reduceIte,yA,yB,yC,yD,yE,yH,reduceCtorEq,yF,yG,yI,h_gRight,h1,yJ]
 rcases h2:decide (n>40)
 case true =>
  have hr:rightS rs n=false:=by unfold rightS;rw[h1,h2];rfl
  rw[hr]
  simp only[go_sem,reduceIte,yA,yB,yC,yD,yE,yH,reduceCtorEq,yF,yG,yI,h_gRight,h1,h2,yJ]
  repeat' (first|refine qqA ?_ ?_|refine qqB ?_ ?_|refine qqC ?_ ?_|refine qqD ?_ ?_|refine qqE ?_ ?_|refine qqF ?_ ?_)<;>intro h<;>simp only[h,go_sem,reduceIte,yA,yB,yC,yD,yE,yH,reduceCtorEq,yF,yG,yI,h_gRight,h1,h2,yJ]
 rcases h3:((rs.length:Int)==n)
 case false =>
  have hr:rightS rs n=false:=by unfold rightS;rw[h1,h2,h3];rfl
  rw[hr]
  simp only[go_sem,reduceIte,yA,yB,yC,yD,yE,yH,reduceCtorEq,yF,yG,yI,h_gRight,h1,h2,h3,yJ,Bool.not_false,bne]
  repeat' (first|refine qqA ?_ ?_|refine qqB ?_ ?_|refine qqC ?_ ?_|refine qqD ?_ ?_|refine qqE ?_ ?_|refine qqF ?_ ?_)<;>intro h<;>simp only[h,go_sem,reduceIte,yA,yB,yC,yD,yE,yH,reduceCtorEq,yF,yG,yI,h_gRight,h1,h2,h3,yJ,Bool.not_false,bne]
 have hn:n=rs.length:=(beq_iff_eq.1 h3).symm
 have hR:rightS rs n = !(rs.any (badRow n)):=by unfold rightS;rw[h1,h2,h3];rfl
 have hN:rs.length≤40:=by have:=of_decide_eq_false h2;omega
 rw[hR]
 simp only[go_sem,reduceIte,yA,yB,yC,yD,yE,yH,reduceCtorEq,yF,yG,yI,h_gRight,h1,h2,h3,yJ,Bool.not_true,bne]
 refine wp_loop_keep [0,1] [] (fun (i:Nat) tm mem=>i≤rs.length∧(∀ r∈rs.take i,badRow n r=false)∧tm 5 = .dat (.int .i64 i)) (fun i=>rs.length-i) 0 (by refine⟨Nat.zero_le _,by simp,rfl⟩) ?_
 intro vs ms hvs hms
 simp only[go_sem,reduceIte,yA,yB,yC,yD,yE,yH,reduceCtorEq,yF,yG,yI,h_gRight,yJ] at hvs hms
 subst hvs hms
 rintro i tm mem hk-⟨hi,hall,h5⟩
 simp only[go_sem,reduceIte,yA,yB,yC,yD,yE,yH,reduceCtorEq,yF,yG,yI,h_gRight,yM] at hk
 obtain⟨h0,h1'⟩:=hk
 rcases Decidable.em (i<rs.length) with hlt | hge
 ·obtain⟨⟨A,⟨a,b⟩,⟨c,e⟩⟩,hx⟩:∃ f,rs[i]?=some f:=⟨_,yL hlt⟩
  obtain⟨⟨hAl,hAo⟩,hV1,hV2⟩:=hc.2 _ (List.mem_of_getElem? hx)
  dsimp only at hAl hAo hV1 hV2
  have d1:decide ((i:Int)<n)=true:=decide_eq_true (by omega)
  have w3:IntKind.i64.wrap ((i:Int)+1)=((i+1:Nat):Int):=by rw[wrap64 _ (by omega) (by omega)];omega
  have hbad:badRow n (A,((a,b),(c,e)))=true→(!(rs.any (badRow n)))=false:=fun h=>by
   rw[List.any_eq_true.2 ⟨_,List.mem_of_getElem? hx,h⟩];rfl
  rcases hl:((A.length:Int)==n)
  ·rw[hbad (by unfold badRow;rw[hl];rfl)]
   simp only[go_sem,reduceIte,yA,yB,yC,yD,yE,yH,reduceCtorEq,yF,yG,yI,h_gRight,h0,h1',h5,d1,hx,hl,rowL,fracL,yJ,yK,Bool.not_false,bne]
   repeat' (first|refine qqA ?_ ?_|refine qqB ?_ ?_|refine qqC ?_ ?_|refine qqD ?_ ?_|refine qqE ?_ ?_|refine qqF ?_ ?_)<;>intro h<;>simp only[h,go_sem,reduceIte,yA,yB,yC,yD,yE,yH,reduceCtorEq,yF,yG,yI,h_gRight,h0,h1',h5,d1,hx,hl,rowL,fracL,yJ,yK,Bool.not_false,bne]
  rcases hv:rightF ((a,b),(c,e))
  ·rw[hbad (by unfold badRow;rw[hl,hv];rfl)]
   simp only[go_sem,reduceIte,yA,yB,yC,yD,yE,yH,reduceCtorEq,yF,yG,yI,h_gRight,h0,h1',h5,d1,hx,hl,hv,hV1,hV2,rowL,fracL,yJ,yK,Bool.not_false,Bool.not_true,bne]
   repeat' (first|refine qqA ?_ ?_|refine qqB ?_ ?_|refine qqC ?_ ?_|refine qqD ?_ ?_|refine qqE ?_ ?_|refine qqF ?_ ?_)<;>intro h<;>simp only[h,go_sem,reduceIte,yA,yB,yC,yD,yE,yH,reduceCtorEq,yF,yG,yI,h_gRight,h0,h1',h5,d1,hx,hl,hv,hV1,hV2,rowL,fracL,yJ,yK,Bool.not_false,Bool.not_true,bne]
  have hln:(A.length:Int)=n:=beq_iff_eq.1 hl
  simp only[go_sem,reduceIte,yA,yB,yC,yD,yE,yH,reduceCtorEq,yF,yG,yI,h_gRight,h0,h1',h5,d1,hx,hl,hv,hV1,hV2,rowL,fracL,yJ,yK,Bool.not_false,Bool.not_true,bne]
  refine wp_loop_keep [0,1,5] [] (fun (k:Nat) tm mem=>k≤A.length∧(∀ f∈A.take k,badF f=false)∧tm 6 = .dat (.int .i64 k)) (fun k=>A.length-k) 0 (by refine⟨Nat.zero_le _,by simp,rfl⟩) ?_
  intro vs ms hvs hms
  simp only[go_sem,reduceIte,yA,yB,yC,yD,yE,yH,reduceCtorEq,yF,yG,yI,h_gRight,h0,h1',h5] at hvs hms
  subst hvs hms
  rintro k tm' mem' hk-⟨hki,hkall,h6⟩
  simp only[go_sem,reduceIte,yA,yB,yC,yD,yE,yH,reduceCtorEq,yF,yG,yI,h_gRight,yM] at hk
  obtain⟨k0,k1,k5⟩:=hk
  rcases Decidable.em (k<A.length) with hklt | hkge
  ·obtain⟨⟨⟨u,v⟩,⟨x,y⟩⟩,hy⟩:∃ f,A[k]?=some f:=⟨_,yL hklt⟩
   obtain⟨o1,o2⟩:=hAo _ (List.mem_of_getElem? hy)
   dsimp only at o1 o2
   have d2:decide ((k:Int)<n)=true:=decide_eq_true (by omega)
   have w4:IntKind.i64.wrap ((k:Int)+1)=((k+1:Nat):Int):=by rw[wrap64 _ (by omega) (by omega)];omega
   rcases hf:rightF ((u,v),(x,y))
   ·rw[hbad (by unfold badRow;rw[hl,hv,List.any_eq_true.2 ⟨_,List.mem_of_getElem? hy,by unfold badF;rw[hf];rfl⟩];rfl)]
    simp only[go_sem,reduceIte,yA,yB,yC,yD,yE,yH,reduceCtorEq,yF,yG,yI,h_gRight,k0,k1,k5,h6,d2,hx,hy,hf,o1,o2,rowL,fracL,yJ,yK,Bool.not_false]
    repeat' (first|refine qqA ?_ ?_|refine qqB ?_ ?_|refine qqC ?_ ?_|refine qqD ?_ ?_|refine qqE ?_ ?_|refine qqF ?_ ?_)<;>intro h<;>simp only[h,go_sem,reduceIte,yA,yB,yC,yD,yE,yH,reduceCtorEq,yF,yG,yI,h_gRight,k0,k1,k5,h6,d2,hx,hy,hf,o1,o2,rowL,fracL,yJ,yK,Bool.not_false]
   ·simp only[go_sem,reduceIte,yA,yB,yC,yD,yE,yH,reduceCtorEq,yF,yG,yI,h_gRight,k0,k1,k5,h6,d2,hx,hy,hf,o1,o2,w4,rowL,fracL,yJ,yK,Bool.not_true]
    exact⟨k+1,by omega,by omega,take_succ_all hkall hy (by unfold badF;rw[hf];rfl),rfl⟩
  ·have d2:decide ((k:Int)<n)=false:=decide_eq_false (by omega)
   rw[List.take_of_length_le (by omega)] at hkall
   simp only[go_sem,reduceIte,yA,yB,yC,yD,yE,yH,reduceCtorEq,yF,yG,yI,h_gRight,k0,k1,k5,h6,d2,w3]
   exact⟨i+1,by omega,by omega,take_succ_all hall hx (by unfold badRow;rw[hl,hv,List.any_eq_false.2 fun f hf=>by rw[hkall f hf];simp];rfl),rfl⟩
 ·obtain rfl:i=rs.length:=by omega
  have d1:decide ((rs.length:Int)<n)=false:=decide_eq_false (by omega)
  rw[List.take_of_length_le (by omega)] at hall
  have:rs.any (badRow n)=false:=List.any_eq_false.2 fun r hr=>by rw[hall r hr];simp
  rw[this]
  simp only[go_sem,reduceIte,yA,yB,yC,yD,yE,yH,reduceCtorEq,yF,yG,yI,h_gRight,h0,h1',h5,d1,Bool.not_false]
/-- An element less a product. -/
def lessF (a fac b:FRaw):FRaw × Int:=if ((mulF fac b).2==0)=true then subF a (mulF fac b).1 else (zeroF,(mulF fac b).2)
noncomputable def F_eless:List Data→Option PRes:=FF (α:=FRaw × FRaw × FRaw) (fun (a,f,b)=>([.agg (fracL a),.agg (fracL f),.agg (fracL b)]:List Data)) (fun (a,f,b)=>onlyIf (okF a∧okF f∧okF b) (.same (fracE (lessF a f b))))
theorem F_eless_inj:∀ a b:FRaw × FRaw × FRaw,(fun (a,f,b)=>([.agg (fracL a),.agg (fracL f),.agg (fracL b)]:List Data)) a=(fun (a,f,b)=>([.agg (fracL a),.agg (fracL f),.agg (fracL b)]:List Data)) b→a=b:=by
  rintro⟨a1,f1,b1⟩ ⟨a2,f2,b2⟩ h
  simp only[yM,Data.agg.injEq] at h;exact Prod.ext (fracL_inj _ _ h.1) (Prod.ext (fracL_inj _ _ h.2.1) (fracL_inj _ _ h.2.2.1))
@[go_sem] theorem F_eless_eq (a:FRaw) (f:FRaw) (b:FRaw) (hc:okF a∧okF f∧okF b):F_eless [.agg (fracL a),.agg (fracL f),.agg (fracL b)]=some (.same (fracE (lessF a f b))):=(FF_eq F_eless_inj (a,f,b)).trans (onlyIf_pos hc _)
theorem w_eless (T:Tab) (h_gMul:T id_ref05_Mul=mkE F_gMul) (h_gSub:T id_ref05_Sub=mkE F_gSub) (a:FRaw) (f:FRaw) (b:FRaw) (hc:okF a∧okF f∧okF b) :
  wp T mf_ref06_less.body (endS mf_ref06_less.res (.same (fracE (lessF a f b)))) ⟨initTm [.dat (.agg (fracL a)),.dat (.agg (fracL f)),.dat (.agg (fracL b))],emp⟩:=by
 refine wp_start ?_
 simp only[mf_ref06_less]
 obtain⟨⟨a1,a2⟩,⟨f1,f2⟩,⟨b1,b2⟩⟩:=hc
 obtain⟨⟨s,l⟩,⟨s2,l2⟩⟩:=a
 obtain⟨⟨t,m⟩,⟨t2,m2⟩⟩:=f
 obtain⟨⟨u,k⟩,⟨u2,k2⟩⟩:=b
 dsimp only at a1 a2 f1 f2 b1 b2
 have ho:=okF_mul ((t,m),(t2,m2)) ((u,k),(u2,k2))
 unfold lessF
 rcases hM:mulF ((t,m),(t2,m2)) ((u,k),(u2,k2)) with ⟨⟨⟨p1,p2⟩,⟨p3,p4⟩⟩,pe⟩
 rw[hM] at ho
 obtain⟨o1,o2⟩:=ho
 dsimp only at o1 o2
 rcases hp:(pe==0)
 ·simp only[go_sem,reduceIte,yA,yB,yC,yD,yE,yH,reduceCtorEq,yF,yG,yI,h_gMul,h_gSub,hM,a1,a2,f1,f2,b1,b2,hp,fracL,fracE,zeroF,List.map_nil,Bool.not_false,bne]
 ·simp only[go_sem,reduceIte,yA,yB,yC,yD,yE,yH,reduceCtorEq,yF,yG,yI,h_gMul,h_gSub,hM,a1,a2,f1,f2,b1,b2,o1,o2,hp,fracL,fracE,Bool.not_true,bne]
end Go.Mini
namespace Go.Mini
open Go
set_option maxRecDepth 10000
set_option maxHeartbeats 4000000
theorem appRw {k G i:Nat} {l:List RowD} {a b c d e:MV} (h:l.length=i) (hi:i≤1000) (ho:[a,b,c,d,e].all MV.one=true):appC k G 5 i 88 1 [a,b,c,d,e] (some (G,rowE rowL l))=some (.ref k (G+1) 5 0 (i+1),some (k,G+1,rowE rowL l++[a,b,c,d,e])):=by
 unfold appC
 dsimp only
 rw[if_pos ⟨rfl,by rw[rowE_len rowL_len];omega,by omega,by unfold maxLen;omega,ho⟩,List.take_of_length_le (by rw[rowE_len rowL_len];omega)]
theorem set_last {l:List RowD} {i:Nat} (h:l.length=i) (x:MV) (A:List FRaw) (a:Int) (b:List Int) (c:Int) (d:List Int) :
  (rowE rowL l++[x,.dat (.int .i64 a),.dat (.sl (b.map i64L)),.dat (.int .i64 c),.dat (.sl (d.map i64L))]).set (i*5) (.dat (.sl (A.map fracL)))=rowE rowL (l++[(A,((a,b),(c,d)))]):=by
 have hl:(rowE rowL l).length=i*5:=by rw[rowE_len rowL_len,h]
 rw[List.set_append_right _ _ (by omega),hl,Nat.sub_self,List.set_cons_zero]
 unfold rowE
 rw[List.map_append,List.flatten_append,List.map_append]
 rfl
noncomputable def F_ecopied:List Data→Option PRes:=FF (α:=List RowD) (fun (rs:List RowD)=>([.sl (rs.map rowL)]:List Data)) (fun (rs:List RowD)=>onlyIf (rs.length≤1000∧okRows rs) (.own 5 (rs.map rowL)))
theorem F_ecopied_inj:∀ a b:List RowD,(fun (rs:List RowD)=>([.sl (rs.map rowL)]:List Data)) a=(fun (rs:List RowD)=>([.sl (rs.map rowL)]:List Data)) b→a=b:=by
  intro rs1 rs2 h
  exact map_inj rowL_inj _ _ (by simpa using h)
@[go_sem] theorem F_ecopied_eq (rs:List RowD) (hc:rs.length≤1000∧okRows rs):F_ecopied [.sl (rs.map rowL)]=some (.own 5 (rs.map rowL)):=(FF_eq F_ecopied_inj rs).trans (onlyIf_pos hc _)
theorem w_ecopied (T:Tab)  (rs:List RowD) (hc:rs.length≤1000∧okRows rs) :
  wp T mf_ref06_Copied.body (endS mf_ref06_Copied.res (.own 5 (rs.map rowL))) ⟨initTm [.dat (.sl (rs.map rowL))],emp⟩:=by
 refine wp_start ?_
 simp only[mf_ref06_Copied]
 obtain⟨hN,hc⟩:=hc
 simp only[go_sem,reduceIte,yA,yB,yC,yD,yE,yH,reduceCtorEq,yF,yG,yI,yJ]
 refine wp_loop_keep [0] [] (fun ((i,g):Nat × Nat) tm mem=>i≤rs.length∧tm 4 = .dat (.int .i64 i)∧tm 3 = .ref 199026 g 5 0 i∧mem 199026=some (g,rowE rowL (rs.take i))) (fun (i,_)=>rs.length-i) (0,0) (by refine⟨Nat.zero_le _,rfl,rfl,rfl⟩) ?_
 intro vs ms hvs hms
 simp only[go_sem,reduceIte,yA,yB,yC,yD,yE,yH,reduceCtorEq,yF,yG,yI,yJ] at hvs hms
 subst hvs hms
 rintro⟨i,g⟩ tm mem hk-⟨hi,h4,h3,hm26⟩
 simp only[go_sem,reduceIte,yA,yB,yC,yD,yE,yH,reduceCtorEq,yF,yG,yI,yM] at hk
 have h0:=hk
 rcases Decidable.em (i<rs.length) with hlt | hge
 ·obtain⟨⟨A,⟨a,b⟩,⟨c,e⟩⟩,hx⟩:∃ f,rs[i]?=some f:=⟨_,yL hlt⟩
  obtain⟨⟨hAl,hAo⟩,hV1,hV2⟩:=hc.2 _ (List.mem_of_getElem? hx)
  dsimp only at hAl hAo hV1 hV2
  have d1:decide ((i:Int)<(rs.length:Int))=true:=decide_eq_true (by omega)
  have w3:IntKind.i64.wrap ((i:Int)+1)=((i+1:Nat):Int):=by rw[wrap64 _ (by omega) (by omega)];omega
  have htl:(rs.take i).length=i:=by rw[List.length_take];omega
  have hap:∀ G,appC 199012 G 4 0 64 A.length ((A.map fracL).flatten.map .dat) (some (G,[]))=some (.ref 199012 (G+1) 4 0 A.length,some (199012,G+1,rowE fracL A)):=fun G=>by
   have:=app_rows fracL_len fracL_one 199012 G 64 [] A (by simp;omega) (by simp;omega)
   simpa [rowE] using this
  have hev:=even_frac A
  have hap2:=fun (x:MV) (hx:MV.one x=true)=>appRw (k:=199026) (G:=g) (a:=x) (b:=.dat (.int .i64 a)) (c:=.dat (.sl (b.map i64L))) (d:=.dat (.int .i64 c)) (e:=.dat (.sl (e.map i64L))) htl (by omega) (by simp only[List.all_cons,hx];rfl)
  have hap3:=fun (G n:Nat)=>hap2 (.ref 199012 G 4 0 n) rfl
  simp only[go_sem,reduceIte,yA,yB,yC,yD,yE,yH,reduceCtorEq,yF,yG,yI,h0,h3,h4,hm26,hx,d1,hap,hev,hap3,rowL,fracL,yJ,yK]
  have hl5:(rowE rowL (rs.take i)).length=i*5:=by rw[rowE_len rowL_len,htl]
  refine ghostK_freezeK 199026 (i*5) 199012 (g:=nextO (mem 199012)+1) (sz:=4) (off:=0) (len:=A.length) (cs:=rowE fracL A) (d:=.sl (A.map fracL)) (by simp only[updM];rfl) (by rw[List.getElem?_append_right (by omega),hl5,Nat.sub_self];rfl) (by simp [updM]) (allDat_row _ _) (by decide) ?_ ?_
  ·exact toD_row (n:=0) fracL_len (by simp [updM])
  ·have hsl:=set_last htl (.ref 199012 (nextO (mem 199012)+1) 4 0 A.length) A a b c e
   have hnt:rs.take i++[(A,((a,b),(c,e)))]=rs.take (i+1):=by rw[List.take_add_one,hx];rfl
   rw[hsl,hnt]
   simp only[go_sem,reduceIte,yA,yB,yC,yD,yE,yH,reduceCtorEq,yF,yG,yI,h0,h3,h4,hm26,w3]
   exact⟨(i+1,g+1),by dsimp only;omega,by dsimp only;omega,rfl,rfl,rfl⟩
 ·obtain rfl:i=rs.length:=by omega
  have d1:decide ((rs.length:Int)<(rs.length:Int))=false:=decide_eq_false (by omega)
  rw[List.take_length] at hm26
  have hlen:(rowE rowL rs).length=rs.length*5:=rowE_len rowL_len rs
  simp only[go_sem,reduceIte,yA,yB,yC,yD,yE,yH,reduceCtorEq,yF,yG,yI,h0,h3,h4,hm26,d1,yJ]
  unfold ownD
  dsimp only
  rw[hm26]
  simp only[and_self,if_true]
  rw[if_pos ⟨trivial,by omega⟩,List.take_of_length_le (by omega)]
  unfold rowE
  rw[mapM_dat _ fun d=>rfl]
  have:=chunk_all (sz:=5) (rs.map rowL) (by intro x hx;obtain⟨f,-,rfl⟩:=List.mem_map.1 hx;rfl)
  rw[yJ] at this
  simp [this]
end Go.Mini
namespace Go.Mini
open Go
set_option maxRecDepth 10000
set_option maxHeartbeats 4000000
/-- Operations one after the other, up to the first that fails. -/
def untilG {α:Type} (op:α→FRaw × Int) (e:α→FRaw):List α→List FRaw × Bool
 | []=>([],true)
 | a::r=>if ((op a).2==0)=true then ((op a).1::(untilG op e r).1,(untilG op e r).2) else ((a::r).map e,false)
section
variable {α:Type} {op:α→FRaw × Int} {e:α→FRaw}
theorem until_ok:∀ {l:List α},(∀ a∈l,(op a).2=0)→untilG op e l=(l.map fun a=>(op a).1,true)
 | [],_=>rfl
 | a::r,h=>by
  unfold untilG
  rw[if_pos (by rw[h a List.mem_cons_self];rfl),until_ok fun b hb=>h b (List.mem_cons_of_mem _ hb)]
  rfl
theorem until_fail:∀ {l:List α} {k:Nat} {a:α},(∀ a∈l.take k,(op a).2=0)→l[k]?=some a→((op a).2==0)=false→untilG op e l=((l.take k).map (fun a=>(op a).1)++(l.drop k).map e,false)
 | [],k,a,_,h,_=>by simp at h
 | b::r,0,a,_,h,hf=>by
  simp only[List.getElem?_cons_zero,Option.some.injEq] at h
  subst h
  unfold untilG
  rw[hf]
  simp
 | b::r,k+1,a,h,hx,hf=>by
  have:=until_fail (l:=r) (k:=k) (fun c hc=>h c (by rw[List.take_succ_cons];exact List.mem_cons_of_mem _ hc)) (by simpa using hx) hf
  unfold untilG
  rw[if_pos (by rw[h b (by rw[List.take_succ_cons];exact List.mem_cons_self)];rfl),this]
  simp
theorem until_set {l:List α} {k:Nat} {a:α} (h:l[k]?=some a):((l.take k).map (fun a=>(op a).1)++(l.drop k).map e).set k (op a).1=(l.take (k+1)).map (fun a=>(op a).1)++(l.drop (k+1)).map e:=by
 obtain⟨hlt,hx⟩:=List.getElem?_eq_some_iff.1 h
 have hl:((l.take k).map fun a=>(op a).1).length=k:=by rw[yJ,List.length_take];omega
 rw[List.set_append_right _ _ (by omega),hl,Nat.sub_self,List.drop_eq_getElem_cons hlt,List.map_cons,List.set_cons_zero,List.take_add_one,h,List.map_append,List.append_assoc]
 rfl
theorem until_len {l:List α} {k:Nat}:((l.take k).map (fun a=>(op a).1)++(l.drop k).map e).length=l.length:=by
 rw[List.length_append,yJ,yJ,List.length_take,List.length_drop];omega
end
def divX (x:RowD) (c:Nat):RowD × Bool :=
 if (untilG (fun a=>divF a (x.1.getD c zeroF)) id x.1).2=true then (((untilG (fun a=>divF a (x.1.getD c zeroF)) id x.1).1,(divF x.2 (x.1.getD c zeroF)).1),(divF x.2 (x.1.getD c zeroF)).2==0)
 else (((untilG (fun a=>divF a (x.1.getD c zeroF)) id x.1).1,zeroF),false)
noncomputable def F_edivided:List Data→Option PRes:=FF (α:=RowD × Nat) (fun (x,c)=>([.agg (rowL x),.int .i64 (x.1.length:Nat),.int .i64 c]:List Data)) (fun (x,c)=>onlyIf (okRow x∧x.1.length≤1000∧c<x.1.length) (.same (.tup [.agg (rowL (divX x c).1),.bool (divX x c).2])))
theorem F_edivided_inj:∀ a b:RowD × Nat,(fun (x,c)=>([.agg (rowL x),.int .i64 (x.1.length:Nat),.int .i64 c]:List Data)) a=(fun (x,c)=>([.agg (rowL x),.int .i64 (x.1.length:Nat),.int .i64 c]:List Data)) b→a=b:=by
  rintro⟨x1,c1⟩ ⟨x2,c2⟩ h
  simp only[yM,Data.agg.injEq,Data.int.injEq] at h;exact Prod.ext (rowL_inj _ _ h.1) (by have:=h.2.2.1.2;dsimp only;omega)
@[go_sem] theorem F_edivided_eq (x:RowD) (c:Nat) (hc:okRow x∧x.1.length≤1000∧c<x.1.length):F_edivided [.agg (rowL x),.int .i64 (x.1.length:Nat),.int .i64 c]=some (.same (.tup [.agg (rowL (divX x c).1),.bool (divX x c).2])):=(FF_eq F_edivided_inj (x,c)).trans (onlyIf_pos hc _)
theorem w_edivided (T:Tab) (h_gDiv:T id_ref05_Div=mkE F_gDiv) (x:RowD) (c:Nat) (hc:okRow x∧x.1.length≤1000∧c<x.1.length) :
  wp T mf_ref06_divided.body (endS mf_ref06_divided.res (.same (.tup [.agg (rowL (divX x c).1),.bool (divX x c).2]))) ⟨initTm [.dat (.agg (rowL x)),.dat (.int .i64 (x.1.length:Nat)),.dat (.int .i64 c)],emp⟩:=by
 refine wp_start ?_
 simp only[mf_ref06_divided]
 obtain⟨⟨⟨-,hAo⟩,hV1,hV2⟩,hN,hcN⟩:=hc
 obtain⟨A,⟨v1,v2⟩,⟨v3,v4⟩⟩:=x
 dsimp only at hAo hV1 hV2 hN hcN ⊢
 obtain⟨⟨⟨b1,b2⟩,⟨b3,b4⟩⟩,hb⟩:∃ f,A[c]?=some f:=⟨_,yL hcN⟩
 obtain⟨ob1,ob2⟩:=hAo _ (List.mem_of_getElem? hb)
 dsimp only at ob1 ob2
 have hbd:A.getD c zeroF=((b1,b2),(b3,b4)):=by rw[List.getD_eq_getElem?_getD,hb];rfl
 unfold divX
 dsimp only
 rw[hbd]
 have hap:appC 200020 0 4 0 64 A.length ((A.map fracL).flatten.map .dat) (some (0,[]))=some (.ref 200020 1 4 0 A.length,some (200020,1,rowE fracL A)):=by
  have:=app_rows fracL_len fracL_one 200020 0 64 [] A (by simp;omega) (by simp;omega)
  simpa [rowE] using this
 have hev:=even_frac A
 have hD:∀ (L:List FRaw),L.length=A.length→∀ n (m:Mem),m 200020=some (1,rowE fracL L)→toD (n+1) m (.ref 200020 1 4 0 A.length)=some (.sl (L.map fracL)):=fun L hL n m hm=>by
  have:=toD_row (n:=n) fracL_len hm
  rw[hL] at this
  exact this
 simp only[go_sem,reduceIte,yA,yB,yC,yD,yE,yH,reduceCtorEq,yF,yG,yI,h_gDiv,hb,hcN,hap,hev,rowL,fracL,i64L,yJ,yK]
 refine wp_loop_keep [1,3,6,8,9] [200003,200006,200008,200009] (fun (k:Nat) tm mem=>k≤A.length∧(∀ a∈A.take k,(divF a ((b1,b2),(b3,b4))).2=0)∧tm 10 = .dat (.int .i64 k)∧mem 200020=some (1,rowE fracL ((A.take k).map (fun a=>(divF a ((b1,b2),(b3,b4))).1)++(A.drop k).map id))) (fun k=>A.length-k) 0 (by refine⟨Nat.zero_le _,by simp,rfl,?_⟩;simp [updM]) ?_
 intro vs ms hvs hms
 simp only[go_sem,reduceIte,yA,yB,yC,yD,yE,yH,reduceCtorEq,yF,yG,yI,h_gDiv,rowL,fracL] at hvs hms
 subst hvs hms
 rintro k tm mem hk hm ⟨hkA,hall,h10,hm20⟩
 simp only[go_sem,reduceIte,yA,yB,yC,yD,yE,yH,reduceCtorEq,yF,yG,yI,h_gDiv,yM] at hk hm
 obtain⟨h1,h3,h6,h8,h9⟩:=hk
 obtain⟨m3,m6,m8,m9⟩:=hm
 rcases Decidable.em (k<A.length) with hlt | hge
 ·obtain⟨⟨⟨a1,a2⟩,⟨a3,a4⟩⟩,hx⟩:∃ f,A[k]?=some f:=⟨_,yL hlt⟩
  obtain⟨o1,o2⟩:=hAo _ (List.mem_of_getElem? hx)
  dsimp only at o1 o2
  have d1:decide ((k:Int)<(A.length:Int))=true:=decide_eq_true (by omega)
  have w3:IntKind.i64.wrap ((k:Int)+1)=((k+1:Nat):Int):=by rw[wrap64 _ (by omega) (by omega)];omega
  rcases hM:divF ((a1,a2),(a3,a4)) ((b1,b2),(b3,b4)) with ⟨⟨⟨p1,p2⟩,⟨p3,p4⟩⟩,pe⟩
  have hL:=until_len (op:=fun a=>divF a ((b1,b2),(b3,b4))) (e:=id) (l:=A) (k:=k)
  rcases hp:(pe==0)
  ·have hu:=until_fail (op:=fun a=>divF a ((b1,b2),(b3,b4))) (e:=id) hall hx (by rw[hM];exact hp)
   rw[hu]
   simp only[go_sem,reduceIte,yA,yB,yC,yD,yE,yH,reduceCtorEq,yF,yG,yI,h_gDiv,h1,h3,h6,h8,h9,h10,m3,m6,m8,m9,hm20,d1,hx,o1,o2,ob1,ob2,hM,hp,rowL,fracL,fracE,zeroF,List.map_nil,yJ,yK,Bool.not_false,bne]
   rw[hD _ hL 3 _ (by simp [updM,hm20])]
   rfl
  ·have hp0:pe=0:=beq_iff_eq.1 hp
   subst hp0
   have hset:=until_set (op:=fun a=>divF a ((b1,b2),(b3,b4))) (e:=id) hx
   rw[hM] at hset
   have hlt':k<((A.take k).map (fun a=>(divF a ((b1,b2),(b3,b4))).1)++(A.drop k).map id).length:=by rw[hL];exact hlt
   have hst:=setF hlt' p1 p2 p3 p4
   rw[hset] at hst
   have hln:=lenF hlt'
   simp only[go_sem,reduceIte,yA,yB,yC,yD,yE,yH,reduceCtorEq,yF,yG,yI,h_gDiv,h1,h3,h6,h8,h9,h10,m3,m6,m8,m9,hm20,d1,w3,hlt,hx,o1,o2,ob1,ob2,hM,hst,hln,rowL,fracL,fracE,yJ,yK,beq_self_eq_true,Bool.not_true,bne]
   exact⟨k+1,by omega,by omega,fun a ha=>by
    rw[List.take_add_one,hx,List.mem_append] at ha
    rcases ha with ha | ha
    ·exact hall a ha
    ·simp at ha;rw[ha,hM],rfl,rfl⟩
 ·obtain rfl:k=A.length:=by omega
  have d1:decide ((A.length:Int)<(A.length:Int))=false:=decide_eq_false (by omega)
  rw[List.take_length] at hall hm20
  have hu:=until_ok (op:=fun a=>divF a ((b1,b2),(b3,b4))) (e:=id) hall
  rw[hu]
  rw[List.drop_length,List.map_nil,List.append_nil] at hm20
  rcases hM:divF ((v1,v2),(v3,v4)) ((b1,b2),(b3,b4)) with ⟨⟨⟨p1,p2⟩,⟨p3,p4⟩⟩,pe⟩
  simp only[go_sem,reduceIte,yA,yB,yC,yD,yE,yH,reduceCtorEq,yF,yG,yI,h_gDiv,h1,h3,h6,h8,h9,h10,m3,m6,m8,m9,hm20,d1,hV1,hV2,ob1,ob2,hM,rowL,fracL,fracE,yJ]
  rw[hD (A.map fun a=>(divF a ((b1,b2),(b3,b4))).1) (by simp) 3 _ (by simp [updM,hm20])]
  rfl
/-- A row less another one, so many times as it has in a column. -/
def redX (x y:RowD) (c:Nat):RowD × Bool :=
 if (untilG (fun a:FRaw × FRaw=>lessF a.1 (x.1.getD c zeroF) a.2) Prod.fst (x.1.zip y.1)).2=true then (((untilG (fun a:FRaw × FRaw=>lessF a.1 (x.1.getD c zeroF) a.2) Prod.fst (x.1.zip y.1)).1,(lessF x.2 (x.1.getD c zeroF) y.2).1),(lessF x.2 (x.1.getD c zeroF) y.2).2==0)
 else (((untilG (fun a:FRaw × FRaw=>lessF a.1 (x.1.getD c zeroF) a.2) Prod.fst (x.1.zip y.1)).1,zeroF),false)
theorem okF_less (a f b:FRaw):okF (lessF a f b).1:=by
 unfold lessF
 split
 ·exact okF_sub _ _
 ·exact okF_zero
theorem zip_fst {l m:List FRaw} (h:l.length=m.length):(l.zip m).map Prod.fst=l:=by
 rw[List.map_fst_zip (by omega)]
noncomputable def F_ereduced:List Data→Option PRes:=FF (α:=RowD × RowD × Nat) (fun (x,y,c)=>([.agg (rowL x),.agg (rowL y),.int .i64 (x.1.length:Nat),.int .i64 c]:List Data)) (fun (x,y,c)=>onlyIf (okRow x∧okRow y∧x.1.length≤1000∧y.1.length=x.1.length∧c<x.1.length) (.same (.tup [.agg (rowL (redX x y c).1),.bool (redX x y c).2])))
theorem F_ereduced_inj:∀ a b:RowD × RowD × Nat,(fun (x,y,c)=>([.agg (rowL x),.agg (rowL y),.int .i64 (x.1.length:Nat),.int .i64 c]:List Data)) a=(fun (x,y,c)=>([.agg (rowL x),.agg (rowL y),.int .i64 (x.1.length:Nat),.int .i64 c]:List Data)) b→a=b:=by
  rintro⟨x1,y1,c1⟩ ⟨x2,y2,c2⟩ h
  simp only[yM,Data.agg.injEq,Data.int.injEq] at h;exact Prod.ext (rowL_inj _ _ h.1) (Prod.ext (rowL_inj _ _ h.2.1) (by have:=h.2.2.2.1.2;dsimp only;omega))
@[go_sem] theorem F_ereduced_eq (x:RowD) (y:RowD) (c:Nat) (hc:okRow x∧okRow y∧x.1.length≤1000∧y.1.length=x.1.length∧c<x.1.length):F_ereduced [.agg (rowL x),.agg (rowL y),.int .i64 (x.1.length:Nat),.int .i64 c]=some (.same (.tup [.agg (rowL (redX x y c).1),.bool (redX x y c).2])):=(FF_eq F_ereduced_inj (x,y,c)).trans (onlyIf_pos hc _)
theorem w_ereduced (T:Tab) (h_eless:T id_ref06_less=mkE F_eless) (x:RowD) (y:RowD) (c:Nat) (hc:okRow x∧okRow y∧x.1.length≤1000∧y.1.length=x.1.length∧c<x.1.length) :
  wp T mf_ref06_reduced.body (endS mf_ref06_reduced.res (.same (.tup [.agg (rowL (redX x y c).1),.bool (redX x y c).2]))) ⟨initTm [.dat (.agg (rowL x)),.dat (.agg (rowL y)),.dat (.int .i64 (x.1.length:Nat)),.dat (.int .i64 c)],emp⟩:=by
 refine wp_start ?_
 simp only[mf_ref06_reduced]
 obtain⟨⟨⟨-,hAo⟩,hV1,hV2⟩,⟨⟨-,hBo⟩,hW1,hW2⟩,hN,hyN,hcN⟩:=hc
 obtain⟨A,⟨v1,v2⟩,⟨v3,v4⟩⟩:=x
 obtain⟨B,⟨u1,u2⟩,⟨u3,u4⟩⟩:=y
 dsimp only at hAo hV1 hV2 hBo hW1 hW2 hN hyN hcN ⊢
 obtain⟨⟨⟨b1,b2⟩,⟨b3,b4⟩⟩,hb⟩:∃ f,A[c]?=some f:=⟨_,yL hcN⟩
 have obF:=hAo _ (List.mem_of_getElem? hb)
 have hbd:A.getD c zeroF=((b1,b2),(b3,b4)):=by rw[List.getD_eq_getElem?_getD,hb];rfl
 unfold redX
 dsimp only
 rw[hbd]
 have hZl:(A.zip B).length=A.length:=by rw[List.length_zip];omega
 have hap:appC 201022 0 4 0 64 A.length ((A.map fracL).flatten.map .dat) (some (0,[]))=some (.ref 201022 1 4 0 A.length,some (201022,1,rowE fracL A)):=by
  have:=app_rows fracL_len fracL_one 201022 0 64 [] A (by simp;omega) (by simp;omega)
  simpa [rowE] using this
 have hev:=even_frac A
 have hD:∀ (L:List FRaw),L.length=A.length→∀ n (m:Mem),m 201022=some (1,rowE fracL L)→toD (n+1) m (.ref 201022 1 4 0 A.length)=some (.sl (L.map fracL)):=fun L hL n m hm=>by
  have:=toD_row (n:=n) fracL_len hm
  rw[hL] at this
  exact this
 simp only[go_sem,reduceIte,yA,yB,yC,yD,yE,yH,reduceCtorEq,yF,yG,yI,h_eless,hb,hcN,hap,hev,rowL,fracL,i64L,yJ,yK]
 refine wp_loop_keep [2,4,5,8,10,11] [201004,201005,201008,201010,201011] (fun (k:Nat) tm mem=>k≤A.length∧(∀ a∈(A.zip B).take k,(lessF a.1 ((b1,b2),(b3,b4)) a.2).2=0)∧tm 12 = .dat (.int .i64 k)∧mem 201022=some (1,rowE fracL (((A.zip B).take k).map (fun a=>(lessF a.1 ((b1,b2),(b3,b4)) a.2).1)++((A.zip B).drop k).map Prod.fst))) (fun k=>A.length-k) 0 (by refine⟨Nat.zero_le _,by simp,rfl,?_⟩;simp only[List.take_zero,List.drop_zero,List.map_nil,List.nil_append,zip_fst hyN.symm];simp [updM]) ?_
 intro vs ms hvs hms
 simp only[go_sem,reduceIte,yA,yB,yC,yD,yE,yH,reduceCtorEq,yF,yG,yI,h_eless,rowL,fracL] at hvs hms
 subst hvs hms
 rintro k tm mem hk hm ⟨hkA,hall,h12,hm22⟩
 simp only[go_sem,reduceIte,yA,yB,yC,yD,yE,yH,reduceCtorEq,yF,yG,yI,h_eless,yM] at hk hm
 obtain⟨h2,h4,h5,h8,h10,h11⟩:=hk
 obtain⟨m4,m5,m8,m10,m11⟩:=hm
 rcases Decidable.em (k<A.length) with hlt | hge
 ·obtain⟨⟨⟨a1,a2⟩,⟨a3,a4⟩⟩,hx⟩:∃ f,A[k]?=some f:=⟨_,yL hlt⟩
  obtain⟨⟨⟨c1,c2⟩,⟨c3,c4⟩⟩,hy⟩:∃ f,B[k]?=some f:=⟨_,yL (by omega)⟩
  have oa:=hAo _ (List.mem_of_getElem? hx)
  have oc:=hBo _ (List.mem_of_getElem? hy)
  have hz:(A.zip B)[k]?=some (((a1,a2),(a3,a4)),((c1,c2),(c3,c4))):=by rw[List.getElem?_zip_eq_some];exact⟨hx,hy⟩
  have d1:decide ((k:Int)<(A.length:Int))=true:=decide_eq_true (by omega)
  have w3:IntKind.i64.wrap ((k:Int)+1)=((k+1:Nat):Int):=by rw[wrap64 _ (by omega) (by omega)];omega
  have hlF:=F_eless_eq ((a1,a2),(a3,a4)) ((b1,b2),(b3,b4)) ((c1,c2),(c3,c4)) ⟨oa,obF,oc⟩
  rcases hM:lessF ((a1,a2),(a3,a4)) ((b1,b2),(b3,b4)) ((c1,c2),(c3,c4)) with ⟨⟨⟨p1,p2⟩,⟨p3,p4⟩⟩,pe⟩
  rw[hM] at hlF
  simp only[fracL,fracE] at hlF
  have hL:=until_len (op:=fun a:FRaw × FRaw=>lessF a.1 ((b1,b2),(b3,b4)) a.2) (e:=Prod.fst) (l:=A.zip B) (k:=k)
  rw[hZl] at hL
  rcases hp:(pe==0)
  ·have hu:=until_fail (op:=fun a:FRaw × FRaw=>lessF a.1 ((b1,b2),(b3,b4)) a.2) (e:=Prod.fst) hall hz (by dsimp only;rw[hM];exact hp)
   rw[hu]
   simp only[go_sem,reduceIte,yA,yB,yC,yD,yE,yH,reduceCtorEq,yF,yG,yI,h_eless,h2,h4,h5,h8,h10,h11,h12,m4,m5,m8,m10,m11,hm22,d1,hx,hy,hlF,hp,rowL,fracL,fracE,zeroF,List.map_nil,yJ,yK,Bool.not_false,bne]
   rw[hD _ hL 3 _ (by simp [updM,hm22])]
   rfl
  ·have hp0:pe=0:=beq_iff_eq.1 hp
   subst hp0
   have hset:=until_set (op:=fun a:FRaw × FRaw=>lessF a.1 ((b1,b2),(b3,b4)) a.2) (e:=Prod.fst) hz
   dsimp only at hset
   rw[hM] at hset
   have hlt':k<(((A.zip B).take k).map (fun a=>(lessF a.1 ((b1,b2),(b3,b4)) a.2).1)++((A.zip B).drop k).map Prod.fst).length:=by rw[hL];exact hlt
   have hst:=setF hlt' p1 p2 p3 p4
   rw[hset] at hst
   have hln:=lenF hlt'
   simp only[go_sem,reduceIte,yA,yB,yC,yD,yE,yH,reduceCtorEq,yF,yG,yI,h_eless,h2,h4,h5,h8,h10,h11,h12,m4,m5,m8,m10,m11,hm22,d1,w3,hlt,hx,hy,hlF,hst,hln,rowL,fracL,fracE,yJ,yK,beq_self_eq_true,Bool.not_true,bne]
   exact⟨k+1,by omega,by omega,fun a ha=>by
    rw[List.take_add_one,hz,List.mem_append] at ha
    rcases ha with ha | ha
    ·exact hall a ha
    ·simp at ha;rw[ha,hM],rfl,rfl⟩
 ·obtain rfl:k=A.length:=by omega
  have d1:decide ((A.length:Int)<(A.length:Int))=false:=decide_eq_false (by omega)
  have htk:(A.zip B).take A.length=A.zip B:=List.take_of_length_le (by omega)
  have hdr:(A.zip B).drop A.length=[]:=List.drop_eq_nil_of_le (by omega)
  rw[htk] at hall
  rw[htk,hdr,List.map_nil,List.append_nil] at hm22
  have hu:=until_ok (op:=fun a:FRaw × FRaw=>lessF a.1 ((b1,b2),(b3,b4)) a.2) (e:=Prod.fst) hall
  rw[hu]
  have hlF:=F_eless_eq ((v1,v2),(v3,v4)) ((b1,b2),(b3,b4)) ((u1,u2),(u3,u4)) ⟨⟨hV1,hV2⟩,obF,⟨hW1,hW2⟩⟩
  rcases hM:lessF ((v1,v2),(v3,v4)) ((b1,b2),(b3,b4)) ((u1,u2),(u3,u4)) with ⟨⟨⟨p1,p2⟩,⟨p3,p4⟩⟩,pe⟩
  rw[hM] at hlF
  simp only[fracL,fracE] at hlF
  simp only[go_sem,reduceIte,yA,yB,yC,yD,yE,yH,reduceCtorEq,yF,yG,yI,h_eless,h2,h4,h5,h8,h10,h11,h12,m4,m5,m8,m10,m11,hm22,d1,hlF,rowL,fracL,fracE,yJ]
  rw[hD ((A.zip B).map fun a=>(lessF a.1 ((b1,b2),(b3,b4)) a.2).1) (by rw[yJ];exact hZl) 3 _ (by simp [updM,hm22])]
  rfl
end Go.Mini
namespace Go.Mini
open Go
set_option maxRecDepth 10000
set_option maxHeartbeats 4000000
def cellR (x:RowD) (c:Nat):FRaw:=x.1.getD c zeroF
def findR (rows:List RowD) (r c:Nat):Nat:=r+(rows.drop r).findIdx fun x => !zeroQ (cellR x c)
def rowR (rows:List RowD) (i:Nat):RowD:=rows.getD i ([],zeroF)
def redRows (p:RowD) (r c:Nat):Nat→List RowD→List RowD × Bool
 | _,[]=>([],true)
 | i,x::xs=>if (i==r||zeroQ (cellR x c))=true then (x::(redRows p r c (i+1) xs).1,(redRows p r c (i+1) xs).2)
  else if (redX x p c).2=true then ((redX x p c).1::(redRows p r c (i+1) xs).1,(redRows p r c (i+1) xs).2) else (x::xs,false)
def swapR (rows:List RowD) (i j:Nat):List RowD:=(rows.set i (rowR rows j)).set j (rowR rows i)
def elimR (stop:Bool):Nat→Nat→List RowD→Nat→List Nat→List RowD × List Nat × Bool
 | 0,_,rows,_,free=>(rows,free,true)
 | k+1,c,rows,r,free =>
  if findR rows r c=rows.length then (if stop=true then (rows,free++[c],true) else elimR stop k (c+1) rows r (free++[c]))
  else if (divX (rowR (swapR rows r (findR rows r c)) r) c).2=true then
   (if (redRows (divX (rowR (swapR rows r (findR rows r c)) r) c).1 r c 0 ((swapR rows r (findR rows r c)).set r (divX (rowR (swapR rows r (findR rows r c)) r) c).1)).2=true then
    elimR stop k (c+1) (redRows (divX (rowR (swapR rows r (findR rows r c)) r) c).1 r c 0 ((swapR rows r (findR rows r c)).set r (divX (rowR (swapR rows r (findR rows r c)) r) c).1)).1 (r+1) free
   else ((redRows (divX (rowR (swapR rows r (findR rows r c)) r) c).1 r c 0 ((swapR rows r (findR rows r c)).set r (divX (rowR (swapR rows r (findR rows r c)) r) c).1)).1,free,false))
  else (swapR rows r (findR rows r c),free,false)
def RowsOK (N:Nat) (rows:List RowD):Prop:=rows.length=N∧∀ x∈rows,x.1.length=N∧okRow x
theorem findR_step {rows:List RowD} {r c i:Nat} {x:RowD} (hx:rows[i]?=some x) (hr:r≤i) (hz:∀ j y,r≤j→j<i→rows[j]?=some y→zeroQ (cellR y c)=true) (h:zeroQ (cellR x c)=false):findR rows r c=i:=by
 unfold findR
 obtain⟨hlt,hxi⟩:=List.getElem?_eq_some_iff.1 hx
 have:(rows.drop r).findIdx (fun x => !zeroQ (cellR x c))=i-r:=by
  rw[List.findIdx_eq (by rw[List.length_drop];omega)]
  refine⟨?_,fun j hj=>?_⟩
  ·rw[List.getElem_drop]
   have:rows[r+(i-r)]?=some x:=by rw[show r+(i-r)=i by omega];exact hx
   rw[(List.getElem?_eq_some_iff.1 this).2,h];rfl
  ·rw[List.getElem_drop]
   have:=hz (r+j) _ (by omega) (by omega) (yL (by omega))
   rw[this];rfl
 omega
theorem findR_end {rows:List RowD} {r c:Nat} (hr:r≤rows.length) (hz:∀ j y,r≤j→rows[j]?=some y→zeroQ (cellR y c)=true):findR rows r c=rows.length:=by
 unfold findR
 have:(rows.drop r).findIdx (fun x => !zeroQ (cellR x c))=(rows.drop r).length:=by
  rw[List.findIdx_eq_length]
  intro y hy
  obtain⟨j,hj⟩:=List.mem_iff_getElem?.1 hy
  rw[List.getElem?_drop] at hj
  rw[hz (r+j) y (by omega) hj];rfl
 rw[this,List.length_drop]
 omega
theorem rowR_at {rows:List RowD} {i:Nat} {x:RowD} (h:rows[i]?=some x):rowR rows i=x:=by
 unfold rowR
 rw[List.getD_eq_getElem?_getD,h];rfl
theorem cellR_get {x:RowD} {c:Nat} {f:FRaw} (h:x.1[c]?=some f):cellR x c=f:=by
 unfold cellR
 rw[List.getD_eq_getElem?_getD,h];rfl
theorem lenRw {l:List RowD} {k:Nat} (h:k<l.length):(k*5+5≤(rowE rowL l).length)=True:=eq_true (by rw[rowE_len rowL_len];omega)
theorem lenRw0 {l:List RowD} {k:Nat} (h:k<l.length):(k*5+1≤(rowE rowL l).length)=True:=eq_true (by rw[rowE_len rowL_len];omega)
theorem setRw {l:List RowD} {k:Nat} (h:k<l.length) (A:List FRaw) (a:Int) (b:List Int) (c:Int) (d:List Int) :
  List.take (k*5) (rowE rowL l)++[MV.dat (.sl (A.map fracL)),MV.dat (.int .i64 a),.dat (.sl (b.map i64L)),.dat (.int .i64 c),.dat (.sl (d.map i64L))]++List.drop (k*5+5) (rowE rowL l)=rowE rowL (l.set k (A,((a,b),(c,d)))):=by
 rw[←rowE_set rowL_len h]
 rfl
theorem getRw {l:List RowD} {k:Nat} {A a b c d} (h:l[k]?=some (A,((a,b),(c,d)))):List.take 5 (List.drop (k*5) (rowE rowL l))=[MV.dat (.sl (A.map fracL)),MV.dat (.int .i64 a),.dat (.sl (b.map i64L)),.dat (.int .i64 c),.dat (.sl (d.map i64L))]:=by
 have hcut:=rowE_cut rowL_len h (f:=0) (n:=5) (by omega)
 unfold cut at hcut
 rw[if_pos (by rw[rowE_len rowL_len];have:=(List.getElem?_eq_some_iff.1 h).1;omega)] at hcut
 exact Option.some.inj hcut
theorem getRw0 {l:List RowD} {k:Nat} {A a b c d} (h:l[k]?=some (A,((a,b),(c,d)))):List.take 1 (List.drop (k*5) (rowE rowL l))=[MV.dat (.sl (A.map fracL))]:=by
 have:=congrArg (List.take 1) (getRw h)
 rw[List.take_take] at this
 exact this
theorem ghost_abs' {K:St→Prop} {tm:Nat→MV} {m:Mem} (P:(Nat→MV)→Mem→Prop) (h0:P tm m) (h:∀ tm m,P tm m→K ⟨tm,m⟩):ghostK K ⟨tm,m⟩ .move:=ghostK_skip (h tm m h0)
theorem until_length {α:Type} {op:α→FRaw × Int} {e:α→FRaw}:∀ l:List α,(untilG op e l).1.length=l.length
 | []=>rfl
 | a::r=>by
  unfold untilG
  split
  ·simp [until_length r]
  ·simp
theorem until_okF {α:Type} {op:α→FRaw × Int} {e:α→FRaw} (h1:∀ a,okF (op a).1):∀ l:List α,(∀ a∈l,okF (e a))→∀ f∈(untilG op e l).1,okF f
 | [],_,f,hf=>by simp [untilG] at hf
 | a::r,h,f,hf=>by
  unfold untilG at hf
  split at hf
  ·rcases List.mem_cons.1 hf with rfl | hf
   ·exact h1 a
   ·exact until_okF h1 r (fun b hb=>h b (List.mem_cons_of_mem _ hb)) f hf
  ·obtain⟨b,hb,rfl⟩:=List.mem_map.1 hf
   exact h b hb
theorem divX_ok {N:Nat} {x:RowD} (h:x.1.length=N∧okRow x) (c:Nat):(divX x c).1.1.length=N∧okRow (divX x c).1:=by
 obtain⟨hl,⟨hA1,hA2⟩,hV⟩:=h
 have h1:∀ f∈(untilG (fun a=>divF a (x.1.getD c zeroF)) id x.1).1,okF f:=until_okF (fun a=>okF_div _ _) x.1 hA2
 have h2:=until_length (op:=fun a=>divF a (x.1.getD c zeroF)) (e:=id) x.1
 unfold divX
 split
 ·exact⟨by dsimp only;omega,⟨⟨by dsimp only;omega,h1⟩,okF_div _ _⟩⟩
 ·exact⟨by dsimp only;omega,⟨⟨by dsimp only;omega,h1⟩,okF_zero⟩⟩
theorem redX_ok {N:Nat} {x y:RowD} (h:x.1.length=N∧okRow x) (hy:y.1.length=N) (c:Nat):(redX x y c).1.1.length=N∧okRow (redX x y c).1:=by
 obtain⟨hl,⟨hA1,hA2⟩,hV⟩:=h
 have hz:(x.1.zip y.1).length=N:=by rw[List.length_zip];omega
 have h1:∀ f∈(untilG (fun a:FRaw × FRaw=>lessF a.1 (x.1.getD c zeroF) a.2) Prod.fst (x.1.zip y.1)).1,okF f:=until_okF (fun a=>okF_less _ _ _) _ fun a ha=>hA2 _ (List.of_mem_zip ha).1
 have h2:=until_length (op:=fun a:FRaw × FRaw=>lessF a.1 (x.1.getD c zeroF) a.2) (e:=Prod.fst) (x.1.zip y.1)
 unfold redX
 split
 ·exact⟨by dsimp only;omega,⟨⟨by dsimp only;omega,h1⟩,okF_less _ _ _⟩⟩
 ·exact⟨by dsimp only;omega,⟨⟨by dsimp only;omega,h1⟩,okF_zero⟩⟩
theorem redRows_ok {N:Nat} {p:RowD} {r c:Nat} (hp:p.1.length=N):∀ (i:Nat) (l:List RowD),(∀ x∈l,x.1.length=N∧okRow x)→(redRows p r c i l).1.length=l.length∧∀ x∈(redRows p r c i l).1,x.1.length=N∧okRow x
 | _,[],h=>⟨rfl,h⟩
 | i,x::xs,h=>by
  obtain⟨i1,i2⟩:=redRows_ok (r:=r) (c:=c) hp (i+1) xs fun y hy=>h y (List.mem_cons_of_mem _ hy)
  unfold redRows
  split
  ·refine⟨by simp [i1],fun y hy=>?_⟩
   rcases List.mem_cons.1 hy with rfl | hy
   ·exact h _ List.mem_cons_self
   ·exact i2 y hy
  ·split
   ·refine⟨by simp [i1],fun y hy=>?_⟩
    rcases List.mem_cons.1 hy with rfl | hy
    ·exact redX_ok (h _ List.mem_cons_self) hp c
    ·exact i2 y hy
   ·exact⟨rfl,h⟩
theorem RowsOK.set {N:Nat} {rows:List RowD} (h:RowsOK N rows) {i:Nat} {x:RowD} (hx:x.1.length=N∧okRow x):RowsOK N (rows.set i x):=by
 refine⟨by rw[List.length_set];exact h.1,fun y hy=>?_⟩
 rcases List.mem_or_eq_of_mem_set hy with hy | rfl
 ·exact h.2 y hy
 ·exact hx
end Go.Mini
namespace Go.Mini
open Go
set_option maxRecDepth 10000
set_option maxHeartbeats 4000000
theorem redRows_skip {p x:RowD} {r c i:Nat} {xs:List RowD} (h:(i==r||zeroQ (cellR x c))=true):redRows p r c i (x::xs)=(x::(redRows p r c (i+1) xs).1,(redRows p r c (i+1) xs).2):=by rw[redRows,if_pos h]
theorem redRows_step {p x:RowD} {r c i:Nat} {xs:List RowD} (h:¬ ((i==r||zeroQ (cellR x c))=true)) (h2:(redX x p c).2=true):redRows p r c i (x::xs)=((redX x p c).1::(redRows p r c (i+1) xs).1,(redRows p r c (i+1) xs).2):=by rw[redRows,if_neg h,if_pos h2]
theorem redRows_bad {p x:RowD} {r c i:Nat} {xs:List RowD} (h:¬ ((i==r||zeroQ (cellR x c))=true)) (h2:(redX x p c).2=false):redRows p r c i (x::xs)=(x::xs,false):=by rw[redRows,if_neg h,if_neg (by rw[h2];simp)]
theorem ER_find (T:Tab) (h_hZero:T id_ref06_Zero=mkE F_hZero) {K:MExit→St→Prop} {kk:List Todo} (N g r c:Nat) (rows:List RowD) (stop:Bool) (v10:MV) (hok:RowsOK N rows) (hr:r≤N) (hc:c<N) (hN:N≤40) (tm:Nat→MV) (m:Mem)
  (e1:tm 1 = .dat (.int .i64 N)) (e2:tm 2 = .dat (.bool stop)) (e9:tm 9 = .ref 194021 g 5 0 N) (e10:tm 10=v10) (e11:tm 11 = .dat (.int .i64 r)) (e12:tm 12 = .dat (.int .i64 c)) (e13:tm 13 = .dat (.int .i64 r)) (em:m 194021=some (g,rowE rowL rows))
  (hK:∀ tm',tm' 1 = .dat (.int .i64 N)→tm' 2 = .dat (.bool stop)→tm' 9 = .ref 194021 g 5 0 N→tm' 10=v10→tm' 11 = .dat (.int .i64 r)→tm' 12 = .dat (.int .i64 c)→tm' 13 = .dat (.int .i64 (findR rows r c:Nat))→kont T K kk (.exit 2) ⟨tm',m⟩) :
  wp T (mf_ref06_Eliminated.body.sub2 [1,1,1,1,0,1,0,0,0,1,0,0,1,0,0]) (kont T K kk) ⟨tm,m⟩:=by
 simp only[mf_ref06_Eliminated,MCode.sub2]
 refine wp_loop_keep [1,2,9,10,11,12] [] (fun (i:Nat) tm' m'=>r≤i∧i≤N∧(∀ j y,r≤j→j<i→rows[j]?=some y→zeroQ (cellR y c)=true)∧tm' 13 = .dat (.int .i64 i)∧m'=m) (fun i=>N-i) r (by refine⟨Nat.le_refl _,hr,fun j y h1 h2=>by omega,e13,rfl⟩) ?_
 intro vs ms hvs hms
 simp only[go_sem,reduceIte,yA,yB,yC,yD,yE,yH,reduceCtorEq,yF,yG,yI,e1,e2,e9,e10,e11,e12] at hvs hms
 subst hvs hms
 clear e1 e2 e9 e10 e11 e12 e13 tm
 rintro i tm m' hk-⟨hri,hiN,hz,h13,rfl⟩
 simp only[go_sem,reduceIte,yA,yB,yC,yD,yE,yH,reduceCtorEq,yF,yG,yI,yM] at hk
 obtain⟨h1,h2,h9,h10,h11,h12⟩:=hk
 have hl:=hok.1
 rcases Decidable.em (i<N) with hlt | hge
 ·obtain⟨⟨A,⟨v1,v2⟩,⟨v3,v4⟩⟩,hx⟩:∃ x,rows[i]?=some x:=⟨_,yL (by omega)⟩
  obtain⟨hAl,-⟩:=hok.2 _ (List.mem_of_getElem? hx)
  dsimp only at hAl
  obtain⟨⟨⟨f1,f2⟩,⟨f3,f4⟩⟩,hf⟩:∃ f,A[c]?=some f:=⟨_,yL (by omega)⟩
  have hcell:cellR (A,((v1,v2),(v3,v4))) c=((f1,f2),(f3,f4)):=cellR_get hf
  have hg0:=getRw0 hx
  have hl0:=lenRw0 (l:=rows) (k:=i) (by omega)
  have d1:decide ((i:Int)<(N:Int))=true:=decide_eq_true (by omega)
  have hcA:c<A.length:=by omega
  have w3:IntKind.i64.wrap ((i:Int)+1)=((i+1:Nat):Int):=by rw[wrap64 _ (by omega) (by omega)];omega
  rcases hzf:(f1==0)
  ·have hfa:findR rows r c=i:=findR_step hx hri hz (by rw[hcell];exact hzf)
   rw[hfa] at hK
   simp only[go_sem,reduceIte,yA,yB,yC,yD,yE,yH,reduceCtorEq,yF,yG,yI,h_hZero,h1,h2,h9,h10,h11,h12,h13,em,d1,hlt,hg0,hl0,hf,hcA,hzf,fracL,yJ,yK,Nat.add_zero]
   refine hK _ ?_ ?_ ?_ ?_ ?_ ?_ ?_<;>simp only[upd_get,yA,if_false,h1,h2,h9,h10,h11,h12,h13]
  ·simp only[go_sem,reduceIte,yA,yB,yC,yD,yE,yH,reduceCtorEq,yF,yG,yI,h_hZero,h1,h2,h9,h10,h11,h12,h13,em,d1,w3,hlt,hg0,hl0,hf,hcA,hzf,fracL,yJ,yK,Nat.add_zero]
   refine⟨i+1,by omega,by omega,by omega,fun j y h1 h2 hy=>?_,rfl⟩
   rcases Nat.lt_or_ge j i with h | h
   ·exact hz j y h1 h hy
   ·obtain rfl:j=i:=by omega
    rw[hx] at hy
    cases hy
    rw[hcell]
    exact hzf
 ·obtain rfl:i=N:=by omega
  have d1:decide ((i:Int)<(i:Int))=false:=decide_eq_false (by omega)
  have hfa:findR rows r c=i:=by rw[findR_end (by omega) fun j y h1 hy=>hz j y h1 (by have:=(List.getElem?_eq_some_iff.1 hy).1;omega) hy,hl]
  rw[hfa] at hK
  simp only[go_sem,reduceIte,yA,yB,yC,yD,yE,yH,reduceCtorEq,yF,yG,yI,h1,h2,h9,h10,h11,h12,h13,em,d1]
  refine hK _ ?_ ?_ ?_ ?_ ?_ ?_ ?_<;>simp only[upd_get,yA,if_false,h1,h2,h9,h10,h11,h12,h13]
theorem ER_red (T:Tab) (h_hZero:T id_ref06_Zero=mkE F_hZero) (h_ereduced:T id_ref06_reduced=mkE F_ereduced) {K:MExit→St→Prop} {kk:List Todo} (N g r c:Nat) (dv:List RowD) (p:RowD) (stop:Bool) (v10:MV) (x50:Option (Nat × List MV)) (hok:RowsOK N dv) (hp:dv[r]?=some p) (hc:c<N) (hN:N≤40) (tm:Nat→MV) (m:Mem)
  (e1:tm 1 = .dat (.int .i64 N)) (e2:tm 2 = .dat (.bool stop)) (e9:tm 9 = .ref 194021 g 5 0 N) (e10:tm 10=v10) (e11:tm 11 = .dat (.int .i64 r)) (e12:tm 12 = .dat (.int .i64 c)) (e17:tm 17 = .dat (.int .i64 0)) (em:m 194021=some (g,rowE rowL dv)) (e50:m 194050=x50)
  (hK:(redRows p r c 0 dv).2=true→∀ tm' m',tm' 1 = .dat (.int .i64 N)→tm' 2 = .dat (.bool stop)→tm' 9 = .ref 194021 g 5 0 N→tm' 10=v10→tm' 11 = .dat (.int .i64 r)→tm' 12 = .dat (.int .i64 c)→m' 194021=some (g,rowE rowL (redRows p r c 0 dv).1)→m' 194050=x50→kont T K kk (.exit 4) ⟨tm',m'⟩)
  (hF:(redRows p r c 0 dv).2=false→∀ tm' m',tm' 6 = .ref 194021 g 5 0 N→tm' 7=v10→tm' 8 = .dat (.bool false)→m' 194021=some (g,rowE rowL (redRows p r c 0 dv).1)→m' 194050=x50→kont T K kk .ret ⟨tm',m'⟩) :
  wp T (mf_ref06_Eliminated.body.sub2 [1,1,1,1,0,1,0,0,0,1,0,0,1,1,1,1,1,1,1,1,1,0,1,0]) (kont T K kk) ⟨tm,m⟩:=by
 simp only[mf_ref06_Eliminated,MCode.sub2]
 refine wp_loop_keep [1,2,9,10,11,12] [194050] (fun ((i,pre):Nat × List RowD) tm' m'=>i≤N∧pre.length=i∧(∀ x∈pre,x.1.length=N∧okRow x)∧(r<i→pre[r]?=some p)∧redRows p r c 0 dv=(pre++(redRows p r c i (dv.drop i)).1,(redRows p r c i (dv.drop i)).2)∧tm' 17 = .dat (.int .i64 i)∧m' 194021=some (g,rowE rowL (pre++dv.drop i))) (fun (i,_)=>N-i) (0,[]) (by refine⟨Nat.zero_le _,rfl,by simp,fun h=>by omega,by simp,e17,by simpa using em⟩) ?_
 intro vs ms hvs hms
 simp only[go_sem,reduceIte,yA,yB,yC,yD,yE,yH,reduceCtorEq,yF,yG,yI,e1,e2,e9,e10,e11,e12,e50] at hvs hms
 subst hvs hms
 clear e1 e2 e9 e10 e11 e12 e17 em e50 tm m
 rintro⟨i,pre⟩ tm m hk hm ⟨hiN,hpl,hpre,hpr,hred,h17,hm21⟩
 simp only[go_sem,reduceIte,yA,yB,yC,yD,yE,yH,reduceCtorEq,yF,yG,yI,yM] at hk hm
 obtain⟨h1,h2,h9,h10,h11,h12⟩:=hk
 have hl:=hok.1
 rcases Decidable.em (i<N) with hlt | hge
 ·obtain⟨⟨A,⟨v1,v2⟩,⟨v3,v4⟩⟩,hx⟩:∃ x,dv[i]?=some x:=⟨_,yL (by omega)⟩
  obtain⟨hAl,hAo⟩:=hok.2 _ (List.mem_of_getElem? hx)
  dsimp only at hAl
  have hdrop:dv.drop i=(A,((v1,v2),(v3,v4)))::dv.drop (i+1):=by
   obtain⟨hl',e⟩:=List.getElem?_eq_some_iff.1 hx
   rw[List.drop_eq_getElem_cons hl',e]
  have hcx:(pre++dv.drop i)[i]?=some (A,((v1,v2),(v3,v4))):=by rw[List.getElem?_append_right (by omega),hpl,Nat.sub_self,hdrop];rfl
  have hcl:(pre++dv.drop i).length=N:=by rw[List.length_append,List.length_drop];omega
  have d1:decide ((i:Int)<(N:Int))=true:=decide_eq_true (by omega)
  have w3:IntKind.i64.wrap ((i:Int)+1)=((i+1:Nat):Int):=by rw[wrap64 _ (by omega) (by omega)];omega
  have hskip:(i==r||zeroQ (cellR (A,((v1,v2),(v3,v4))) c))=true→∃ i':Nat × List RowD,N-i'.1<N-i∧i'.1≤N∧i'.2.length=i'.1∧(∀ x∈i'.2,x.1.length=N∧okRow x)∧(r<i'.1→i'.2[r]?=some p)∧redRows p r c 0 dv=(i'.2++(redRows p r c i'.1 (dv.drop i'.1)).1,(redRows p r c i'.1 (dv.drop i'.1)).2)∧MV.dat (.int .i64 ((i+1:Nat):Int))=MV.dat (.int .i64 (i'.1:Nat))∧some (g,rowE rowL (pre++dv.drop i))=some (g,rowE rowL (i'.2++dv.drop i'.1)):=by
   intro hs
   refine⟨(i+1,pre++[(A,((v1,v2),(v3,v4)))]),by dsimp only;omega,by dsimp only;omega,by simp [hpl],fun x hx'=>?_,fun h=>?_,?_,rfl,?_⟩
   ·rcases List.mem_append.1 hx' with h | h
    ·exact hpre x h
    ·rw[List.mem_singleton] at h;rw[h];exact⟨hAl,hAo⟩
   ·dsimp only at h ⊢
    rcases Nat.lt_or_ge r i with h' | h'
    ·rw[List.getElem?_append_left (by omega)];exact hpr h'
    ·obtain rfl:r=i:=by omega
     rw[List.getElem?_append_right (by omega),hpl,Nat.sub_self]
     rw[hp] at hx
     rw[Option.some.inj hx];rfl
   ·dsimp only
    rw[hred,hdrop,redRows_skip hs,List.append_assoc]
    rfl
   ·dsimp only
    rw[hdrop,List.append_assoc];rfl
  by_cases hir:i=r
  ·have hb:((i:Int)==(r:Int))=true:=by rw[beq_iff_eq];omega
   simp only[go_sem,reduceIte,yA,yB,yC,yD,yE,yH,reduceCtorEq,yF,yG,yI,h1,h2,h9,h10,h11,h12,h17,hm,hm21,d1,w3,hb]
   exact hskip (by rw[show (i==r)=true by simpa using hir];rfl)
  have hb:((i:Int)==(r:Int))=false:=by rw[beq_eq_false_iff_ne];omega
  obtain⟨⟨⟨f1,f2⟩,⟨f3,f4⟩⟩,hf⟩:∃ f,A[c]?=some f:=⟨_,yL (by omega)⟩
  have hcell:cellR (A,((v1,v2),(v3,v4))) c=((f1,f2),(f3,f4)):=cellR_get hf
  have hg0:=getRw0 hcx
  have hl0:=lenRw0 (l:=pre++dv.drop i) (k:=i) (by omega)
  have hcA:c<A.length:=by omega
  rcases hzf:(f1==0)
  case true =>
   simp only[go_sem,reduceIte,yA,yB,yC,yD,yE,yH,reduceCtorEq,yF,yG,yI,h_hZero,h1,h2,h9,h10,h11,h12,h17,hm,hm21,d1,w3,hb,hlt,hg0,hl0,hf,hcA,hzf,fracL,yJ,yK,Nat.add_zero]
   exact hskip (by rw[hcell,show zeroQ ((f1,f2),(f3,f4))=true from hzf,Bool.or_true])
  have hrN:r<N:=by have:=(List.getElem?_eq_some_iff.1 hp).1;omega
  have hcr:(pre++dv.drop i)[r]?=some p:=by
   rcases Nat.lt_or_ge r i with h' | h'
   ·rw[List.getElem?_append_left (by omega)];exact hpr h'
   ·rw[List.getElem?_append_right (by omega),List.getElem?_drop,hpl,show i+(r-i)=r by omega];exact hp
  obtain⟨hpN,hpo⟩:=hok.2 _ (List.mem_of_getElem? hp)
  have hrd:=F_ereduced_eq (A,((v1,v2),(v3,v4))) p c ⟨hAo,hpo,by dsimp only;omega,by dsimp only;omega,hcA⟩
  have hro:=redX_ok (N:=N) (x:=(A,((v1,v2),(v3,v4)))) (y:=p) ⟨hAl,hAo⟩ hpN c
  dsimp only at hrd
  rw[hAl] at hrd
  obtain⟨P,⟨u1,u2⟩,⟨u3,u4⟩⟩:=p
  rcases hX:redX (A,((v1,v2),(v3,v4))) (P,((u1,u2),(u3,u4))) c with ⟨⟨XA,⟨x1,x2⟩,⟨x3,x4⟩⟩,ok⟩
  rw[hX] at hrd hro
  simp only[rowL,fracL] at hrd
  have hgx:=getRw hcx
  have hgr:=getRw hcr
  have hlx:=lenRw (l:=pre++dv.drop i) (k:=i) (by omega)
  have hlr:=lenRw (l:=pre++dv.drop i) (k:=r) (by omega)
  have hns:¬ ((i==r||zeroQ (cellR (A,((v1,v2),(v3,v4))) c))=true):=by
   rw[hcell,show zeroQ ((f1,f2),(f3,f4))=false from hzf,Bool.or_false]
   simpa using hir
  cases ok
  ·have hrr:redRows (P,((u1,u2),(u3,u4))) r c 0 dv=(pre++dv.drop i,false):=by
    rw[hred,hdrop,redRows_bad hns (by rw[hX])]
   rw[hrr] at hF
   simp only[go_sem,reduceIte,yA,yB,yC,yD,yE,yH,reduceCtorEq,yF,yG,yI,h_hZero,h_ereduced,h1,h2,h9,h10,h11,h12,h17,hm,hm21,d1,w3,hb,hlt,hrN,hg0,hl0,hf,hcA,hzf,hgx,hgr,hlx,hlr,hrd,rowL,fracL,yJ,yK,Nat.add_zero,Bool.not_false]
   refine hF rfl _ _ ?_ ?_ ?_ ?_ ?_<;>first | rfl | (simp [h9,h10];done) | (simp [updM,hm21,hm];done)
  ·have hsx:=setRw (l:=pre++dv.drop i) (k:=i) (by omega) XA x1 x2 x3 x4
   have hse:(pre++dv.drop i).set i (XA,((x1,x2),(x3,x4)))=(pre++[(XA,((x1,x2),(x3,x4)))])++dv.drop (i+1):=by
    rw[List.set_append_right _ _ (by omega),hpl,Nat.sub_self,hdrop,List.set_cons_zero,List.append_assoc]
    rfl
   rw[hse] at hsx
   simp only[go_sem,reduceIte,yA,yB,yC,yD,yE,yH,reduceCtorEq,yF,yG,yI,h_hZero,h_ereduced,h1,h2,h9,h10,h11,h12,h17,hm,hm21,d1,w3,hb,hlt,hrN,hg0,hl0,hf,hcA,hzf,hgx,hgr,hlx,hlr,hrd,hsx,rowL,fracL,yJ,yK,Nat.add_zero,yM,Bool.not_true]
   refine⟨(i+1,pre++[(XA,((x1,x2),(x3,x4)))]),by dsimp only;omega,by dsimp only;omega,by simp [hpl],fun x hx'=>?_,fun h=>?_,?_,rfl,rfl⟩
   ·rcases List.mem_append.1 hx' with h | h
    ·exact hpre x h
    ·rw[List.mem_singleton] at h;rw[h];exact hro
   ·dsimp only at h ⊢
    rw[List.getElem?_append_left (by omega)];exact hpr (by omega)
   ·dsimp only
    rw[hred,hdrop,redRows_step hns (by rw[hX]),hX,List.append_assoc]
    rfl
 ·obtain rfl:i=N:=by omega
  have d1:decide ((i:Int)<(i:Int))=false:=decide_eq_false (by omega)
  have hdn:dv.drop i=[]:=List.drop_eq_nil_of_le (by omega)
  rw[hdn] at hm21 hred
  simp only[redRows,List.append_nil] at hred hm21
  rw[hred] at hK
  simp only[go_sem,reduceIte,yA,yB,yC,yD,yE,yH,reduceCtorEq,yF,yG,yI,h1,h2,h9,h10,h11,h12,h17,hm,hm21,d1]
  refine hK rfl _ _ ?_ ?_ ?_ ?_ ?_ ?_ hm21 hm<;>simp only[upd_get,yA,if_false,h1,h2,h9,h10,h11,h12,h17]
end Go.Mini
namespace Go.Mini
open Go
set_option maxRecDepth 10000
set_option maxHeartbeats 4000000
def natLr (n:Nat):List Data:=[.int .i64 n]
theorem natLr_len (n:Nat):(natLr n).length=1:=rfl
theorem natLr_one (n:Nat):((natLr n).map MV.dat).all MV.one=true:=rfl
theorem elimR_free {stop:Bool} {k c r:Nat} {rows:List RowD} {free:List Nat} (h:findR rows r c=rows.length):elimR stop (k+1) c rows r free=if stop=true then (rows,free++[c],true) else elimR stop k (c+1) rows r (free++[c]):=by rw[elimR,if_pos h]
theorem elimR_div {stop:Bool} {k c r:Nat} {rows:List RowD} {free:List Nat} {sw:List RowD} {x:RowD} (h:findR rows r c≠rows.length) (hs:swapR rows r (findR rows r c)=sw) (hx:rowR sw r=x):elimR stop (k+1) c rows r free =
  if (divX x c).2=true then (if (redRows (divX x c).1 r c 0 (sw.set r (divX x c).1)).2=true then elimR stop k (c+1) (redRows (divX x c).1 r c 0 (sw.set r (divX x c).1)).1 (r+1) free else ((redRows (divX x c).1 r c 0 (sw.set r (divX x c).1)).1,free,false)) else (sw,free,false):=by rw[elimR,if_neg h,hs,hx]
def elimRD (X:List RowD × List Nat × Bool):Data:=.tup [.sl (X.1.map rowL),.sl (X.2.1.map natLr),.bool X.2.2]
theorem findR_le (rows:List RowD) (r c:Nat) (hr:r≤rows.length):r≤findR rows r c∧findR rows r c≤rows.length:=by
 unfold findR
 have:=List.findIdx_le_length (p:=fun x => !zeroQ (cellR x c)) (xs:=rows.drop r)
 rw[List.length_drop] at this
 omega
noncomputable def F_eelim:List Data→Option PRes:=FF (α:=(List RowD) × Bool) (fun (rs,stop)=>([.sl (rs.map rowL),.int .i64 (rs.length:Nat),.bool stop]:List Data)) (fun (rs,stop)=>onlyIf (RowsOK rs.length rs∧rs.length≤40) (.same (elimRD (elimR stop rs.length 0 rs 0 []))))
theorem F_eelim_inj:∀ a b:(List RowD) × Bool,(fun (rs,stop)=>([.sl (rs.map rowL),.int .i64 (rs.length:Nat),.bool stop]:List Data)) a=(fun (rs,stop)=>([.sl (rs.map rowL),.int .i64 (rs.length:Nat),.bool stop]:List Data)) b→a=b:=by
  rintro⟨rs1,stop1⟩ ⟨rs2,stop2⟩ h
  simp only[yM,Data.sl.injEq,Data.bool.injEq] at h;exact Prod.ext (map_inj rowL_inj _ _ h.1) h.2.2.1
@[go_sem] theorem F_eelim_eq (rs:List RowD) (stop:Bool) (hc:RowsOK rs.length rs∧rs.length≤40):F_eelim [.sl (rs.map rowL),.int .i64 (rs.length:Nat),.bool stop]=some (.same (elimRD (elimR stop rs.length 0 rs 0 []))):=(FF_eq F_eelim_inj (rs,stop)).trans (onlyIf_pos hc _)
theorem w_eelim (T:Tab) (h_ecopied:T id_ref06_Copied=mkE F_ecopied) (h_hZero:T id_ref06_Zero=mkE F_hZero) (h_edivided:T id_ref06_divided=mkE F_edivided) (h_ereduced:T id_ref06_reduced=mkE F_ereduced) (rs:List RowD) (stop:Bool) (hc:RowsOK rs.length rs∧rs.length≤40) :
  wp T mf_ref06_Eliminated.body (endS mf_ref06_Eliminated.res (.same (elimRD (elimR stop rs.length 0 rs 0 [])))) ⟨initTm [.dat (.sl (rs.map rowL)),.dat (.int .i64 (rs.length:Nat)),.dat (.bool stop)],emp⟩:=by
 refine wp_start ?_
 simp only[mf_ref06_Eliminated]
 obtain⟨hok,hN⟩:=hc
 have okr:okRows rs:=⟨by omega,fun r hr=>(hok.2 r hr).2⟩
 have hcp:=F_ecopied_eq rs ⟨by omega,okr⟩
 have hrow:((rs.map rowL).flatten.map MV.dat)=rowE rowL rs:=rfl
 have hinit:elimR stop rs.length 0 rs 0 []=elimR stop rs.length 0 rs 0 []:=rfl
 generalize hN':rs.length=N at *
 generalize hEl:elimR stop N 0 rs 0 []=E at hinit ⊢
 simp only[go_sem,reduceIte,yA,yB,yC,yD,yE,yH,reduceCtorEq,yF,yG,yI,h_ecopied,h_hZero,h_edivided,h_ereduced,hcp,hrow,yJ,hN']
 refine wp_loop_keep [1,2,9] [] (fun ((c,r,gf,rows,free):Nat × Nat × Nat × List RowD × List Nat) tm m=>c≤N∧r+free.length=c∧RowsOK N rows∧E=elimR stop (N-c) c rows r free∧tm 12 = .dat (.int .i64 c)∧tm 11 = .dat (.int .i64 r)∧tm 10 = .ref 194050 gf 1 0 free.length∧m 194021=some (0,rowE rowL rows)∧m 194050=some (gf,rowE natLr free)) (fun (c,_)=>N-c) (0,0,0,rs,[]) (by refine⟨Nat.zero_le _,rfl,hok,?_,rfl,rfl,rfl,?_,?_⟩<;>first | exact hEl.symm | rfl) ?_
 intro vs ms hvs hms
 simp only[go_sem,reduceIte,yA,yB,yC,yD,yE,yH,reduceCtorEq,yF,yG,yI,h_ecopied,h_hZero,h_edivided,h_ereduced,hcp,hrow,yJ,hN'] at hvs hms
 subst hvs hms
 rintro⟨c,r,gf,rows,free⟩ tm m hk-⟨hcN,hrc,hrok,hE,h12,h11,h10,m21,m50⟩
 simp only[go_sem,reduceIte,yA,yB,yC,yD,yE,yH,reduceCtorEq,yF,yG,yI,h_ecopied,h_hZero,h_edivided,h_ereduced,yM] at hk
 obtain⟨h1,h2,h9⟩:=hk
 have hl:=hrok.1
 rcases Decidable.em (c<N) with hlt | hge
 ·have d1:decide ((c:Int)<(N:Int))=true:=decide_eq_true (by omega)
  have w3:IntKind.i64.wrap ((c:Int)+1)=((c+1:Nat):Int):=by rw[wrap64 _ (by omega) (by omega)];omega
  have w4:IntKind.i64.wrap ((r:Int)+1)=((r+1:Nat):Int):=by rw[wrap64 _ (by omega) (by omega)];omega
  obtain⟨k,hk⟩:∃ k,N-c=k+1:=⟨N-c-1,by omega⟩
  rw[hk] at hE
  simp only[go_sem,reduceIte,yA,yB,yC,yD,yE,yH,reduceCtorEq,yF,yG,yI,h_ecopied,h_hZero,h_edivided,h_ereduced,h1,h2,h9,h10,h11,h12,d1]
  refine ghost_abs' (fun tm m=>tm 1 = .dat (.int .i64 N)∧tm 2 = .dat (.bool stop)∧tm 9 = .ref 194021 0 5 0 N∧tm 10 = .ref 194050 gf 1 0 free.length∧tm 11 = .dat (.int .i64 r)∧tm 12 = .dat (.int .i64 c)∧m 194021=some (0,rowE rowL rows)∧m 194050=some (gf,rowE natLr free)) (by refine⟨?_,?_,?_,?_,?_,?_,?_,?_⟩<;>first | rfl | assumption | simp only[go_sem,reduceIte,yA,yB,yC,yD,yE,yH,reduceCtorEq,yF,yG,yI,h_ecopied,h_hZero,h_edivided,h_ereduced,h1,h2,h9,h10,h11,h12]) ?_
  clear h1 h2 h9 h10 h11 h12 m21 m50 tm m
  rintro tm m ⟨h1,h2,h9,h10,h11,h12,m21,m50⟩
  simp only[go_sem,reduceIte,yA,yB,yC,yD,yE,yH,reduceCtorEq,yF,yG,yI,h_ecopied,h_hZero,h_edivided,h_ereduced,h11]
  refine ER_find T h_hZero N 0 r c rows stop (.ref 194050 gf 1 0 free.length) hrok (by omega) hlt hN _ _ ?_ ?_ ?_ ?_ ?_ ?_ ?_ ?_ ?_
  ·simp only[go_sem,reduceIte,yA,yB,yC,yD,yE,yH,reduceCtorEq,yF,yG,yI,h_ecopied,h_hZero,h_edivided,h_ereduced,h1]
  ·simp only[go_sem,reduceIte,yA,yB,yC,yD,yE,yH,reduceCtorEq,yF,yG,yI,h_ecopied,h_hZero,h_edivided,h_ereduced,h2]
  ·simp only[go_sem,reduceIte,yA,yB,yC,yD,yE,yH,reduceCtorEq,yF,yG,yI,h_ecopied,h_hZero,h_edivided,h_ereduced,h9]
  ·simp only[go_sem,reduceIte,yA,yB,yC,yD,yE,yH,reduceCtorEq,yF,yG,yI,h_ecopied,h_hZero,h_edivided,h_ereduced,h10]
  ·simp only[go_sem,reduceIte,yA,yB,yC,yD,yE,yH,reduceCtorEq,yF,yG,yI,h_ecopied,h_hZero,h_edivided,h_ereduced,h11]
  ·simp only[go_sem,reduceIte,yA,yB,yC,yD,yE,yH,reduceCtorEq,yF,yG,yI,h_ecopied,h_hZero,h_edivided,h_ereduced,h12]
  ·rfl
  ·exact m21
  intro tm' k1 k2 k9 k10 k11 k12 k13
  have hat:=findR_le rows r c (by omega)
  rw[hl] at hat
  simp only[go_sem,reduceIte,yA,yB,yC,yD,yE,yH,reduceCtorEq,yF,yG,yI,h_ecopied,h_hZero,h_edivided,h_ereduced]
  refine ghost_abs' (fun tm m=>tm 1 = .dat (.int .i64 N)∧tm 2 = .dat (.bool stop)∧tm 9 = .ref 194021 0 5 0 N∧tm 10 = .ref 194050 gf 1 0 free.length∧tm 11 = .dat (.int .i64 r)∧tm 12 = .dat (.int .i64 c)∧tm 13 = .dat (.int .i64 (findR rows r c:Nat))∧m 194021=some (0,rowE rowL rows)∧m 194050=some (gf,rowE natLr free)) ⟨k1,k2,k9,k10,k11,k12,k13,m21,m50⟩ ?_
  clear h1 h2 h9 h10 h11 h12 k1 k2 k9 k10 k11 k12 k13 m21 m50 tm tm' m
  rintro tm m ⟨h1,h2,h9,h10,h11,h12,h13,m21,m50⟩
  by_cases hf:findR rows r c=N
  ·have d2:((((findR rows r c:Nat):Int))==(N:Int))=true:=by rw[beq_iff_eq];omega
   have hap:=app_row natLr_len natLr_one 194050 gf 8 free c (cs:=[.dat (.int .i64 c)]) rfl (by omega) (by omega)
   rw[elimR_free (by rw[hl];exact hf)] at hE
   cases stop
   ·rw[if_neg (by simp)] at hE
    simp only[go_sem,reduceIte,yA,yB,yC,yD,yE,yH,reduceCtorEq,yF,yG,yI,h_ecopied,h_hZero,h_edivided,h_ereduced,h1,h2,h9,h10,h11,h12,h13,m21,m50,d2,hap,w3]
    exact⟨(c+1,r,gf+1,rows,free++[c]),by dsimp only;omega,by dsimp only;omega,by simp;omega,hrok,by dsimp only;rw[hE,show N-(c+1)=k by omega],rfl,rfl,by simp,rfl,rfl⟩
   ·rw[if_pos rfl] at hE
    have hD1:∀ n (m:Mem),m 194021=some (0,rowE rowL rows)→toD (n+1) m (.ref 194021 0 5 0 N)=some (.sl (rows.map rowL)):=fun n m hm=>by
     have:=toD_row (n:=n) rowL_len hm
     rwa [hl] at this
    have hD2:∀ n (m:Mem),m 194050=some (gf+1,rowE natLr (free++[c]))→toD (n+1) m (.ref 194050 (gf+1) 1 0 (free.length+1))=some (.sl ((free++[c]).map natLr)):=fun n m hm=>by
     have:=toD_row (n:=n) natLr_len hm
     rwa [List.length_append,List.length_singleton] at this
    rw[hE]
    simp only[go_sem,reduceIte,yA,yB,yC,yD,yE,yH,reduceCtorEq,yF,yG,yI,h_ecopied,h_hZero,h_edivided,h_ereduced,h1,h2,h9,h10,h11,h12,h13,m21,m50,d2,hap,elimRD]
    rw[hD1 4 _ (by simp [updM,m21]),hD2 4 _ (by simp [updM])]
    rfl
  ·have d2:((((findR rows r c:Nat):Int))==(N:Int))=false:=by rw[beq_eq_false_iff_ne];omega
   generalize hs:findR rows r c=s at *
   have hsN:s<N:=by omega
   have hrN:r<N:=by omega
   obtain⟨⟨XA,⟨x1,x2⟩,⟨x3,x4⟩⟩,hx⟩:∃ x,rows[s]?=some x:=⟨_,yL (by omega)⟩
   obtain⟨⟨YA,⟨y1,y2⟩,⟨y3,y4⟩⟩,hy⟩:∃ x,rows[r]?=some x:=⟨_,yL (by omega)⟩
   have hsw:swapR rows r (findR rows r c)=(rows.set r (XA,((x1,x2),(x3,x4)))).set s (YA,((y1,y2),(y3,y4))):=by
    unfold swapR
    rw[hs,rowR_at hx,rowR_at hy]
   have hswr:((rows.set r (XA,((x1,x2),(x3,x4)))).set s (YA,((y1,y2),(y3,y4))))[r]?=some (XA,((x1,x2),(x3,x4))):=by
    rw[List.getElem?_set,List.getElem?_set,List.length_set]
    by_cases h:s=r
    ·subst h
     rw[hx] at hy
     rw[if_pos rfl,if_pos (by omega)]
     exact hy.symm
    ·rw[if_neg h,if_pos rfl,if_pos (by omega)]
   have hxo:=hrok.2 _ (List.mem_of_getElem? hx)
   have hswo:RowsOK N ((rows.set r (XA,((x1,x2),(x3,x4)))).set s (YA,((y1,y2),(y3,y4)))):=(hrok.set hxo).set (hrok.2 _ (List.mem_of_getElem? hy))
   rw[elimR_div (by rw[hs,hl];exact hf) hsw (rowR_at hswr)] at hE
   have gx:=getRw hx
   have gy:=getRw hy
   have lx:=lenRw (l:=rows) (k:=s) (by omega)
   have ly:=lenRw (l:=rows) (k:=r) (by omega)
   have s1:=setRw (l:=rows) (k:=r) (by omega) XA x1 x2 x3 x4
   have lx2:=lenRw (l:=rows.set r (XA,((x1,x2),(x3,x4)))) (k:=s) (by rw[List.length_set];omega)
   have s2:=setRw (l:=rows.set r (XA,((x1,x2),(x3,x4)))) (k:=s) (by rw[List.length_set];omega) YA y1 y2 y3 y4
   generalize hSW:(rows.set r (XA,((x1,x2),(x3,x4)))).set s (YA,((y1,y2),(y3,y4)))=sw at *
   have hsl:=hswo.1
   simp only[go_sem,reduceIte,yA,yB,yC,yD,yE,yH,reduceCtorEq,yF,yG,yI,h_ecopied,h_hZero,h_edivided,h_ereduced,h1,h2,h9,h10,h11,h12,h13,m21,m50,d2]
   refine ghost_abs' (fun tm m=>tm 1 = .dat (.int .i64 N)∧tm 2 = .dat (.bool stop)∧tm 9 = .ref 194021 0 5 0 N∧tm 10 = .ref 194050 gf 1 0 free.length∧tm 11 = .dat (.int .i64 r)∧tm 12 = .dat (.int .i64 c)∧tm 13 = .dat (.int .i64 s)∧m 194021=some (0,rowE rowL rows)∧m 194050=some (gf,rowE natLr free)) (by refine⟨?_,?_,?_,?_,?_,?_,?_,?_,?_⟩<;>first | rfl | assumption | simp only[go_sem,reduceIte,yA,yB,yC,yD,yE,yH,reduceCtorEq,yF,yG,yI,h_ecopied,h_hZero,h_edivided,h_ereduced,h1,h2,h9,h10,h11,h12,h13]) ?_
   clear h1 h2 h9 h10 h11 h12 h13 m21 m50 tm m
   rintro tm m ⟨h1,h2,h9,h10,h11,h12,h13,m21,m50⟩
   have gsw:=getRw hswr
   have lsw:=lenRw (l:=sw) (k:=r) (by omega)
   have hxl:XA.length=N:=hxo.1
   have hdv:=F_edivided_eq (XA,((x1,x2),(x3,x4))) c ⟨hxo.2,by dsimp only;omega,by dsimp only;omega⟩
   have hdo:=divX_ok hxo c
   dsimp only at hdv
   rw[hxl] at hdv
   rcases hX:divX (XA,((x1,x2),(x3,x4))) c with ⟨⟨DA,⟨e1,e2⟩,⟨e3,e4⟩⟩,ok⟩
   rw[hX] at hdv hdo hE
   simp only[rowL,fracL] at hdv
   simp only[go_sem,reduceIte,yA,yB,yC,yD,yE,yH,reduceCtorEq,yF,yG,yI,h_ecopied,h_hZero,h_edivided,h_ereduced,h1,h2,h9,h10,h11,h12,h13,m21,m50,hsN,hrN,gx,gy,lx,ly,s1,lx2,s2,gsw,lsw,hdv,Nat.add_zero]
   refine ghost_abs' (fun tm m=>tm 1 = .dat (.int .i64 N)∧tm 2 = .dat (.bool stop)∧tm 9 = .ref 194021 0 5 0 N∧tm 10 = .ref 194050 gf 1 0 free.length∧tm 11 = .dat (.int .i64 r)∧tm 12 = .dat (.int .i64 c)∧tm 16 = .dat (.bool ok)∧m 194021=some (0,rowE rowL sw)∧m 194050=some (gf,rowE natLr free)∧∃ q,tm 15 = .ptr 194015 q 0∧m 194015=some (q,[.dat (.sl (DA.map fracL)),.dat (.int .i64 e1),.dat (.sl (e2.map i64L)),.dat (.int .i64 e3),.dat (.sl (e4.map i64L))])) (by refine⟨?_,?_,?_,?_,?_,?_,?_,?_,?_,nextO (m 194015),?_,?_⟩<;>first | rfl | assumption | simp only[go_sem,reduceIte,yA,yB,yC,yD,yE,yH,reduceCtorEq,yF,yG,yI,h_ecopied,h_hZero,h_edivided,h_ereduced,h1,h2,h9,h10,h11,h12,m50]) ?_
   clear h1 h2 h9 h10 h11 h12 h13 m21 m50 tm m gx gy lx ly s1 lx2 s2 gsw hdv
   rintro tm m ⟨h1,h2,h9,h10,h11,h12,h16,m21,m50,q,h15,m15⟩
   have hD1:∀ (rows:List RowD),rows.length=N→∀ n (m:Mem),m 194021=some (0,rowE rowL rows)→toD (n+1) m (.ref 194021 0 5 0 N)=some (.sl (rows.map rowL)):=fun rows hl n m hm=>by
    have:=toD_row (n:=n) rowL_len hm
    rwa [hl] at this
   have hD2:∀ n (m:Mem),m 194050=some (gf,rowE natLr free)→toD (n+1) m (.ref 194050 gf 1 0 free.length)=some (.sl (free.map natLr)):=fun n m hm=>toD_row (n:=n) natLr_len hm
   cases ok
   ·rw[if_neg (by simp)] at hE
    rw[hE]
    simp only[go_sem,reduceIte,yA,yB,yC,yD,yE,yH,reduceCtorEq,yF,yG,yI,h_ecopied,h_hZero,h_edivided,h_ereduced,h1,h2,h9,h10,h11,h12,h16,m21,m50,elimRD,Bool.not_false]
    rw[hD1 sw hsl 4 _ m21,hD2 4 _ m50]
    rfl
   ·rw[if_pos rfl] at hE
    have s3:=setRw (l:=sw) (k:=r) (by omega) DA e1 e2 e3 e4
    have hdvo:=hswo.set (i:=r) hdo
    have hdvr:(sw.set r (DA,((e1,e2),(e3,e4))))[r]?=some (DA,((e1,e2),(e3,e4))):=by rw[List.getElem?_set,if_pos rfl,if_pos (by omega)]
    simp only[go_sem,reduceIte,yA,yB,yC,yD,yE,yH,reduceCtorEq,yF,yG,yI,h_ecopied,h_hZero,h_edivided,h_ereduced,h1,h2,h9,h10,h11,h12,h16,h15,m15,m21,m50,hrN,lsw,s3,Bool.not_true]
    refine ER_red T h_hZero h_ereduced N 0 r c (sw.set r (DA,((e1,e2),(e3,e4)))) (DA,((e1,e2),(e3,e4))) stop (.ref 194050 gf 1 0 free.length) (some (gf,rowE natLr free)) hdvo hdvr hlt hN _ _ ?_ ?_ ?_ ?_ ?_ ?_ ?_ ?_ ?_ ?_ ?_
    ·simp only[go_sem,reduceIte,yA,yB,yC,yD,yE,yH,reduceCtorEq,yF,yG,yI,h_ecopied,h_hZero,h_edivided,h_ereduced,h1]
    ·simp only[go_sem,reduceIte,yA,yB,yC,yD,yE,yH,reduceCtorEq,yF,yG,yI,h_ecopied,h_hZero,h_edivided,h_ereduced,h2]
    ·simp only[go_sem,reduceIte,yA,yB,yC,yD,yE,yH,reduceCtorEq,yF,yG,yI,h_ecopied,h_hZero,h_edivided,h_ereduced,h9]
    ·simp only[go_sem,reduceIte,yA,yB,yC,yD,yE,yH,reduceCtorEq,yF,yG,yI,h_ecopied,h_hZero,h_edivided,h_ereduced,h10]
    ·simp only[go_sem,reduceIte,yA,yB,yC,yD,yE,yH,reduceCtorEq,yF,yG,yI,h_ecopied,h_hZero,h_edivided,h_ereduced,h11]
    ·simp only[go_sem,reduceIte,yA,yB,yC,yD,yE,yH,reduceCtorEq,yF,yG,yI,h_ecopied,h_hZero,h_edivided,h_ereduced,h12]
    ·rfl
    ·simp only[go_sem,reduceIte,yA,yB,yC,yD,yE,yH,reduceCtorEq,yF,yG,yI,h_ecopied,h_hZero,h_edivided,h_ereduced]
    ·simp only[go_sem,reduceIte,yA,yB,yC,yD,yE,yH,reduceCtorEq,yF,yG,yI,h_ecopied,h_hZero,h_edivided,h_ereduced,m50]
    ·intro hrr tm' m' k1 k2 k9 k10 k11 k12 km k50
     rw[hrr,if_pos rfl] at hE
     have hro:=redRows_ok (p:=(DA,((e1,e2),(e3,e4)))) (r:=r) (c:=c) hdo.1 0 _ hdvo.2
     simp only[go_sem,reduceIte,yA,yB,yC,yD,yE,yH,reduceCtorEq,yF,yG,yI,h_ecopied,h_hZero,h_edivided,h_ereduced,k1,k2,k9,k10,k11,k12,km,k50,w3,w4]
     exact⟨(c+1,r+1,gf,_,free),by dsimp only;omega,by dsimp only;omega,by dsimp only;omega,⟨hro.1.trans hdvo.1,hro.2⟩,by dsimp only;rw[hE,show N-(c+1)=k by omega],rfl,rfl,rfl,rfl,rfl⟩
    ·intro hrr tm' m' k6 k7 k8 km k50
     rw[hrr,if_neg (by simp)] at hE
     have hro:=redRows_ok (p:=(DA,((e1,e2),(e3,e4)))) (r:=r) (c:=c) hdo.1 0 _ hdvo.2
     rw[hE]
     simp only[go_sem,reduceIte,yA,yB,yC,yD,yE,yH,reduceCtorEq,yF,yG,yI,h_ecopied,h_hZero,h_edivided,h_ereduced,k6,k7,k8,km,k50,elimRD]
     rw[hD1 _ (hro.1.trans hdvo.1) 4 _ km,hD2 4 _ k50]
     rfl
 ·obtain rfl:c=N:=by omega
  have d1:decide ((c:Int)<(c:Int))=false:=decide_eq_false (by omega)
  have hD1:∀ n (m:Mem),m 194021=some (0,rowE rowL rows)→toD (n+1) m (.ref 194021 0 5 0 c)=some (.sl (rows.map rowL)):=fun n m hm=>by
   have:=toD_row (n:=n) rowL_len hm
   rwa [hl] at this
  have hD2:∀ n (m:Mem),m 194050=some (gf,rowE natLr free)→toD (n+1) m (.ref 194050 gf 1 0 free.length)=some (.sl (free.map natLr)):=fun n m hm=>toD_row (n:=n) natLr_len hm
  rw[Nat.sub_self] at hE
  simp only[elimR] at hE
  rw[hE]
  simp only[go_sem,reduceIte,yA,yB,yC,yD,yE,yH,reduceCtorEq,yF,yG,yI,h_ecopied,h_hZero,h_edivided,h_ereduced,h1,h2,h9,h10,h11,h12,d1,elimRD]
  rw[hD1 4 _ m21,hD2 4 _ m50]
  rfl
end Go.Mini
