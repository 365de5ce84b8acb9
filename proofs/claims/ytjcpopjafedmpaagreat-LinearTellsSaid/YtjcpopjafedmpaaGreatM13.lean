/- A part of the proof: MiniRg7, MiniRg8, MiniRg9, MiniRg10, MiniPsTells1, MiniPsTells2. -/
import Derived.Test.YtjcpopjafedmpaaGreatM12
import Derived.Test.YtjcpopjafedmpaaGreatM11
import Derived.Test.YtjcpopjafedmpaaGreatProg
import Derived.KernelRfl
set_option linter.unusedSimpArgs false
set_option linter.unusedVariables false
open Nat renaming reduceEqDiff → yA, reduceAdd → yB, reduceSub → yC, reduceMul → yD, reduceLeDiff → yE, reduceLT → yF, reduceBEq → yG
open Bool renaming false_eq_true → yH
open Int renaming reduceEq → yI
open List renaming length_map → yJ, getElem?_map → yK, getElem?_eq_getElem → yL
open List.cons renaming injEq → yM
namespace Go.Mini
open Go
set_option maxRecDepth 10000
set_option maxHeartbeats 4000000
theorem rightS_rowsOK {rs:List RowD} {n:Int} (ho:okRows rs) (h:rightS rs n=true):n=(rs.length:Nat)∧rs.length≤40∧RowsOK rs.length rs:=by
 obtain⟨h1,h2,h3⟩:=rightS_ok ho h
 exact⟨h1.symm,h2,rfl,h3⟩
theorem elimR_ok {N:Nat} (stop:Bool):∀ (k c:Nat) (rows:List RowD) (r:Nat) (free:List Nat),c+k=N→r≤c→RowsOK N rows→RowsOK N (elimR stop k c rows r free).1
 | 0,c,rows,r,free,_,_,h=>h
 | k+1,c,rows,r,free,hc,hrc,h=>by
  have hl:=h.1
  unfold elimR
  split
  ·split
   ·exact h
   ·exact elimR_ok stop k (c+1) rows r _ (by omega) (by omega) h
  ·rename_i hne
   have hmem:∀ i,i<rows.length→rowR rows i∈rows:=fun i hi=>by
    have hx:rows[i]?=some rows[i]:=yL hi
    rw[rowR_at hx];exact List.getElem_mem hi
   have hr:r<rows.length:=by omega
   have hle:=findR_le rows r c (by omega)
   have hs:findR rows r c<rows.length:=by omega
   have hsw:RowsOK N (swapR rows r (findR rows r c)):=by
    unfold swapR
    exact (h.set (h.2 _ (hmem _ hs))).set (h.2 _ (hmem _ hr))
   have hsl:(swapR rows r (findR rows r c)).length=rows.length:=by unfold swapR;rw[List.length_set,List.length_set]
   have hxr:rowR (swapR rows r (findR rows r c)) r∈swapR rows r (findR rows r c):=by
    have hx:(swapR rows r (findR rows r c))[r]?=some _:=yL (by omega)
    rw[rowR_at hx];exact List.getElem_mem _
   have hd:=divX_ok (hsw.2 _ hxr) c
   split
   ·have hdv:=hsw.set (i:=r) hd
    have hro:=redRows_ok (p:=(divX (rowR (swapR rows r (findR rows r c)) r) c).1) (r:=r) (c:=c) hd.1 0 _ hdv.2
    split
    ·exact elimR_ok stop k (c+1) _ (r+1) free (by omega) (by omega) ⟨hro.1.trans hdv.1,hro.2⟩
    ·exact⟨hro.1.trans hdv.1,hro.2⟩
   ·exact hsw
theorem elimR_free_le (stop:Bool):∀ (k c:Nat) (rows:List RowD) (r:Nat) (free:List Nat),(elimR stop k c rows r free).2.1.length≤free.length+k∧∀ f∈(elimR stop k c rows r free).2.1,f∈free∨f<c+k
 | 0,c,rows,r,free=>⟨by simp [elimR],fun f hf => .inl (by simpa [elimR] using hf)⟩
 | k+1,c,rows,r,free=>by
  have hadd:∀ f,f∈free++[c]→f∈free∨f<c+(k+1):=fun f hf=>by
   rcases List.mem_append.1 hf with h | h
   ·exact .inl h
   ·right;have:=List.mem_singleton.1 h;omega
  unfold elimR
  split
  ·split
   ·exact⟨by simp,hadd⟩
   ·obtain⟨i1,i2⟩:=elimR_free_le stop k (c+1) rows r (free++[c])
    refine⟨by simp at i1;omega,fun f hf=>?_⟩
    rcases i2 f hf with h | h
    ·exact hadd f h
    ·right;omega
  ·split
   ·split
    ·obtain⟨i1,i2⟩:=elimR_free_le stop k (c+1) (redRows (divX (rowR (swapR rows r (findR rows r c)) r) c).1 r c 0 ((swapR rows r (findR rows r c)).set r (divX (rowR (swapR rows r (findR rows r c)) r) c).1)).1 (r+1) free
     refine⟨by omega,fun f hf=>?_⟩
     rcases i2 f hf with h | h
     ·exact .inl h
     ·right;omega
    ·exact⟨by simp,fun f hf => .inl hf⟩
   ·exact⟨by simp,fun f hf => .inl hf⟩
def elimT (stop:Bool) (rs:List RowD):List RowD × List Nat × Bool:=elimR stop rs.length 0 rs 0 []
def rrankX (rs:List RowD) (n:Int):Int × Int:=if rightS rs n=true then (if (elimT false rs).2.2=true then (n-(elimT false rs).2.1.length,0) else (0,6)) else (0,1)
noncomputable def F_erank:List Data→Option PRes:=FF (α:=(List RowD) × Int) (fun (rs,n)=>([.sl (rs.map rowL),.int .i64 n]:List Data)) (fun (rs,n)=>onlyIf (okRows rs) (.same (.tup [.int .i64 (rrankX rs n).1,.int .i64 (rrankX rs n).2])))
theorem F_erank_inj:∀ a b:(List RowD) × Int,(fun (rs,n)=>([.sl (rs.map rowL),.int .i64 n]:List Data)) a=(fun (rs,n)=>([.sl (rs.map rowL),.int .i64 n]:List Data)) b→a=b:=by
  rintro⟨rs1,n1⟩ ⟨rs2,n2⟩ h
  simp only[yM,Data.sl.injEq,Data.int.injEq] at h;exact Prod.ext (map_inj rowL_inj _ _ h.1) h.2.1.2
@[go_sem] theorem F_erank_eq (rs:List RowD) (n:Int) (hc:okRows rs):F_erank [.sl (rs.map rowL),.int .i64 n]=some (.same (.tup [.int .i64 (rrankX rs n).1,.int .i64 (rrankX rs n).2])):=(FF_eq F_erank_inj (rs,n)).trans (onlyIf_pos hc _)
theorem w_erank (T:Tab) (h_eRight:T id_ref06_Right=mkE F_eRight) (h_eelim:T id_ref06_Eliminated=mkE F_eelim) (rs:List RowD) (n:Int) (hc:okRows rs) :
  wp T mf_ref06_Rank.body (endS mf_ref06_Rank.res (.same (.tup [.int .i64 (rrankX rs n).1,.int .i64 (rrankX rs n).2]))) ⟨initTm [.dat (.sl (rs.map rowL)),.dat (.int .i64 n)],emp⟩:=by
 refine wp_start ?_
 simp only[mf_ref06_Rank]
 unfold rrankX
 rcases hr:rightS rs n
 ·simp only[go_sem,reduceIte,yA,yB,yC,yD,yE,yH,reduceCtorEq,yF,yG,yI,h_eRight,h_eelim,hc,hr,Bool.not_false]
 ·obtain⟨rfl,hN,hok⟩:=rightS_rowsOK hc hr
  have hF:=F_eelim_eq rs false ⟨hok,hN⟩
  have hfl:=(elimR_free_le false rs.length 0 rs 0 []).1
  change F_eelim [.sl (rs.map rowL),.int .i64 (rs.length:Nat),.bool false]=some (.same (elimRD (elimT false rs))) at hF
  change (elimT false rs).2.1.length≤_ at hfl
  simp only[List.length_nil] at hfl
  rcases hP:elimT false rs with ⟨rows,free,ok⟩
  rw[hP] at hfl hF
  dsimp only at hfl
  simp only[elimRD] at hF
  have hw:IntKind.i64.wrap ((rs.length:Int)-(free.length:Int))=(rs.length:Int)-(free.length:Int):=wrap64 _ (by omega) (by omega)
  cases ok
  ·simp only[go_sem,reduceIte,yA,yB,yC,yD,yE,yH,reduceCtorEq,yF,yG,yI,h_eRight,h_eelim,hc,hr,hF,hw,yJ,Bool.not_true,Bool.not_false]
  ·simp only[go_sem,reduceIte,yA,yB,yC,yD,yE,yH,reduceCtorEq,yF,yG,yI,h_eRight,h_eelim,hc,hr,hF,hw,yJ,Bool.not_true,Bool.not_false]
def rsolveX (rs:List RowD) (n:Int):List FRaw × Int:=if rightS rs n=true then (if (elimT true rs).2.2=true then (if (elimT true rs).2.1.length>0 then ([],17) else ((elimT true rs).1.map (·.2),0)) else ([],6)) else ([],1)
noncomputable def F_esolve:List Data→Option PRes:=FF (α:=(List RowD) × Int) (fun (rs,n)=>([.sl (rs.map rowL),.int .i64 n]:List Data)) (fun (rs,n)=>onlyIf (okRows rs) (.same (.tup [.sl ((rsolveX rs n).1.map fracL),.int .i64 (rsolveX rs n).2])))
theorem F_esolve_inj:∀ a b:(List RowD) × Int,(fun (rs,n)=>([.sl (rs.map rowL),.int .i64 n]:List Data)) a=(fun (rs,n)=>([.sl (rs.map rowL),.int .i64 n]:List Data)) b→a=b:=by
  rintro⟨rs1,n1⟩ ⟨rs2,n2⟩ h
  simp only[yM,Data.sl.injEq,Data.int.injEq] at h;exact Prod.ext (map_inj rowL_inj _ _ h.1) h.2.1.2
@[go_sem] theorem F_esolve_eq (rs:List RowD) (n:Int) (hc:okRows rs):F_esolve [.sl (rs.map rowL),.int .i64 n]=some (.same (.tup [.sl ((rsolveX rs n).1.map fracL),.int .i64 (rsolveX rs n).2])):=(FF_eq F_esolve_inj (rs,n)).trans (onlyIf_pos hc _)
theorem w_esolve (T:Tab) (h_eRight:T id_ref06_Right=mkE F_eRight) (h_eelim:T id_ref06_Eliminated=mkE F_eelim) (rs:List RowD) (n:Int) (hc:okRows rs) :
  wp T mf_ref06_Solve.body (endS mf_ref06_Solve.res (.same (.tup [.sl ((rsolveX rs n).1.map fracL),.int .i64 (rsolveX rs n).2]))) ⟨initTm [.dat (.sl (rs.map rowL)),.dat (.int .i64 n)],emp⟩:=by
 refine wp_start ?_
 simp only[mf_ref06_Solve]
 unfold rsolveX
 rcases hr:rightS rs n
 ·simp only[go_sem,reduceIte,yA,yB,yC,yD,yE,yH,reduceCtorEq,yF,yG,yI,h_eRight,h_eelim,hc,hr,Bool.not_false,List.map_nil]
 ·obtain⟨rfl,hN,hok⟩:=rightS_rowsOK hc hr
  have hF:=F_eelim_eq rs true ⟨hok,hN⟩
  have hro:=elimR_ok true rs.length 0 rs 0 [] (by omega) (by omega) hok
  change F_eelim [.sl (rs.map rowL),.int .i64 (rs.length:Nat),.bool true]=some (.same (elimRD (elimT true rs))) at hF
  change RowsOK rs.length (elimT true rs).1 at hro
  rcases hP:elimT true rs with ⟨rows,free,ok⟩
  rw[hP] at hro hF
  dsimp only at hro
  simp only[elimRD] at hF
  have hrl:=hro.1
  cases ok
  ·simp only[go_sem,reduceIte,yA,yB,yC,yD,yE,yH,reduceCtorEq,yF,yG,yI,h_eRight,h_eelim,hc,hr,hF,yJ,Bool.not_true,Bool.not_false,List.map_nil]
  ·cases free with
   | cons f fs =>
    have hgt:decide ((((f::fs).length:Nat):Int)>0)=true:=decide_eq_true (by simp only[List.length_cons];omega)
    simp only[List.length_cons] at hgt
    simp only[go_sem,reduceIte,yA,yB,yC,yD,yE,yH,reduceCtorEq,yF,yG,yI,h_eRight,h_eelim,hc,hr,hF,hgt,yJ,Bool.not_true,Bool.not_false,List.map_nil]
    rw[if_pos (by simp)]
    all_goals rfl
   | nil =>
    simp only[go_sem,reduceIte,yA,yB,yC,yD,yE,yH,reduceCtorEq,yF,yG,yI,h_eRight,h_eelim,hc,hr,hF,yJ,show decide (((0:Nat):Int)>0)=false from rfl,List.map_nil,List.length_nil,Bool.not_true,Bool.not_false]
    rw[if_neg (by simp)]
    refine wp_loop_keep [1,6] [] (fun ((i,g):Nat × Nat) tm m=>i≤rs.length∧tm 10 = .dat (.int .i64 i)∧tm 9 = .ref 189039 g 4 0 i∧m 189039=some (g,rowE fracL ((rows.take i).map (·.2)))) (fun (i,_)=>rs.length-i) (0,0) (by refine⟨Nat.zero_le _,rfl,rfl,rfl⟩) ?_
    intro vs ms hvs hms
    simp only[go_sem,reduceIte,yA,yB,yC,yD,yE,yH,reduceCtorEq,yF,yG,yI,h_eRight,h_eelim] at hvs hms
    subst hvs hms
    rintro⟨i,g⟩ tm m hk-⟨hiN,h10,h9,hm39⟩
    simp only[go_sem,reduceIte,yA,yB,yC,yD,yE,yH,reduceCtorEq,yF,yG,yI,h_eRight,h_eelim,yM] at hk
    obtain⟨h1,h6⟩:=hk
    rcases Decidable.em (i<rs.length) with hlt | hge
    ·obtain⟨⟨A,⟨a1,a2⟩,⟨a3,a4⟩⟩,hx⟩:∃ x,rows[i]?=some x:=⟨_,yL (by omega)⟩
     have htl:((rows.take i).map (·.2)).length=i:=by rw[yJ,List.length_take];omega
     have hap:=app_row fracL_len fracL_one 189039 g 64 ((rows.take i).map (·.2)) ((a1,a2),(a3,a4)) (cs:=[.dat (.int .i64 a1),.dat (.sl (a2.map i64L)),.dat (.int .i64 a3),.dat (.sl (a4.map i64L))]) rfl (by omega) (by omega)
     rw[htl] at hap
     have hnt:(rows.take i).map (·.2)++[((a1,a2),(a3,a4))]=(rows.take (i+1)).map (·.2):=by
      rw[List.take_add_one,hx,List.map_append];rfl
     rw[hnt] at hap
     have d1:decide ((i:Int)<(rs.length:Int))=true:=decide_eq_true (by omega)
     have w3:IntKind.i64.wrap ((i:Int)+1)=((i+1:Nat):Int):=by rw[wrap64 _ (by omega) (by omega)];omega
     simp only[go_sem,reduceIte,yA,yB,yC,yD,yE,yH,reduceCtorEq,yF,yG,yI,h_eRight,h_eelim,h1,h6,h9,h10,hm39,hx,hap,d1,w3,rowL,fracL,yJ,yK]
     exact⟨(i+1,g+1),by dsimp only;omega,by dsimp only;omega,rfl,rfl,rfl⟩
    ·obtain rfl:i=rs.length:=by omega
     have d1:decide ((rs.length:Int)<(rs.length:Int))=false:=decide_eq_false (by omega)
     have hall:rows.take rs.length=rows:=List.take_of_length_le (by omega)
     rw[hall] at hm39
     have hD:∀ n,toD (n+1) m (.ref 189039 g 4 0 rs.length)=some (.sl ((rows.map (·.2)).map fracL)):=fun n=>by
      have:=toD_row (n:=n) fracL_len hm39
      rw[show (rows.map (·.2)).length=rs.length by rw[yJ];omega] at this
      exact this
     have hD4:=hD 4
     simp only[go_sem,reduceIte,yA,yB,yC,yD,yE,yH,reduceCtorEq,yF,yG,yI,h_eRight,h_eelim,h1,h6,h9,h10,d1]
     rw[hD4]
     rfl
end Go.Mini
namespace Go.Mini
open Go
set_option maxRecDepth 10000
set_option maxHeartbeats 4000000
def kerR (rows:List RowD) (f N:Nat):List FRaw:=(List.range N).map fun k=>if k<f then (subF zF (cellR (rowR rows k) f)).1 else if k=f then oneF else zF
theorem kerR_at (rows:List RowD) (f N:Nat) {i:Nat} (h:i<N):(kerR rows f N)[i]?=some (if i<f then (subF zF (cellR (rowR rows i) f)).1 else if i=f then oneF else zF):=by
 unfold kerR
 rw[yK,List.getElem?_range h];rfl
def rkernX (rs:List RowD) (n:Int):List FRaw × Bool:=if rightS rs n=true then (if (!(elimT true rs).2.2||(elimT true rs).2.1.length==0)=true then ([],false) else (kerR (elimT true rs).1 ((elimT true rs).2.1.headD 0) rs.length,true)) else ([],false)
noncomputable def F_ekern:List Data→Option PRes:=FF (α:=(List RowD) × Int) (fun (rs,n)=>([.sl (rs.map rowL),.int .i64 n]:List Data)) (fun (rs,n)=>onlyIf (okRows rs) (.same (.tup [.sl ((rkernX rs n).1.map fracL),.bool (rkernX rs n).2])))
theorem F_ekern_inj:∀ a b:(List RowD) × Int,(fun (rs,n)=>([.sl (rs.map rowL),.int .i64 n]:List Data)) a=(fun (rs,n)=>([.sl (rs.map rowL),.int .i64 n]:List Data)) b→a=b:=by
  rintro⟨rs1,n1⟩ ⟨rs2,n2⟩ h
  simp only[yM,Data.sl.injEq,Data.int.injEq] at h;exact Prod.ext (map_inj rowL_inj _ _ h.1) h.2.1.2
@[go_sem] theorem F_ekern_eq (rs:List RowD) (n:Int) (hc:okRows rs):F_ekern [.sl (rs.map rowL),.int .i64 n]=some (.same (.tup [.sl ((rkernX rs n).1.map fracL),.bool (rkernX rs n).2])):=(FF_eq F_ekern_inj (rs,n)).trans (onlyIf_pos hc _)
theorem w_ekern (T:Tab) (h_eRight:T id_ref06_Right=mkE F_eRight) (h_eelim:T id_ref06_Eliminated=mkE F_eelim) (h_gOf:T id_ref05_Of=mkE F_gOf) (h_gSub:T id_ref05_Sub=mkE F_gSub) (rs:List RowD) (n:Int) (hc:okRows rs) :
  wp T mf_ref06_Kernel.body (endS mf_ref06_Kernel.res (.same (.tup [.sl ((rkernX rs n).1.map fracL),.bool (rkernX rs n).2]))) ⟨initTm [.dat (.sl (rs.map rowL)),.dat (.int .i64 n)],emp⟩:=by
 refine wp_start ?_
 simp only[mf_ref06_Kernel]
 unfold rkernX
 rcases hr:rightS rs n
 ·simp only[go_sem,reduceIte,yA,yB,yC,yD,yE,yH,reduceCtorEq,yF,yG,yI,h_eRight,h_eelim,h_gOf,h_gSub,hc,hr,Bool.not_false,List.map_nil]
 ·obtain⟨rfl,hN,hok⟩:=rightS_rowsOK hc hr
  have hF:=F_eelim_eq rs true ⟨hok,hN⟩
  have hro:=elimR_ok true rs.length 0 rs 0 [] (by omega) (by omega) hok
  have hfr:=(elimR_free_le true rs.length 0 rs 0 []).2
  change F_eelim [.sl (rs.map rowL),.int .i64 (rs.length:Nat),.bool true]=some (.same (elimRD (elimT true rs))) at hF
  change RowsOK rs.length (elimT true rs).1 at hro
  change ∀ f∈(elimT true rs).2.1,f∈[]∨f<0+rs.length at hfr
  rcases hP:elimT true rs with ⟨rows,free,ok⟩
  rw[hP] at hro hF hfr
  dsimp only at hro hfr
  simp only[elimRD] at hF
  have hrl:=hro.1
  cases ok
  ·simp only[go_sem,reduceIte,yA,yB,yC,yD,yE,yH,reduceCtorEq,yF,yG,yI,h_eRight,h_eelim,h_gOf,h_gSub,hc,hr,hF,yJ,Bool.not_true,Bool.not_false,List.map_nil,Bool.true_or]
  ·cases free with
   | nil =>
    simp only[go_sem,reduceIte,yA,yB,yC,yD,yE,yH,reduceCtorEq,yF,yG,yI,h_eRight,h_eelim,h_gOf,h_gSub,hc,hr,hF,yJ,List.map_nil,List.length_nil,Bool.not_true,Bool.not_false,Int.natCast_zero,Int.cast_ofNat_Int,beq_self_eq_true,Bool.false_or]
   | cons f fs =>
    have hfN:f<rs.length:=by
     rcases hfr f List.mem_cons_self with h | h
     ·simp at h
     ·omega
    have hne:((((f::fs).length:Nat):Int)==0)=false:=by rw[beq_eq_false_iff_ne];simp only[List.length_cons];omega
    simp only[List.length_cons] at hne
    have hne2:((f::fs).length==0)=false:=by rw[beq_eq_false_iff_ne];simp
    have hne3:(fs.length+1==0)=false:=by rw[beq_eq_false_iff_ne];omega
    have z0:=F_gOf_eq 0 1 ⟨by unfold i64R;omega,by unfold i64R;omega⟩
    have z1:=F_gOf_eq 1 1 ⟨by unfold i64R;omega,by unfold i64R;omega⟩
    rw[new_zero] at z0
    rw[new_one] at z1
    simp only[fracE,fracL,zF,oneF,List.map_nil,List.map_cons,i64L] at z0 z1
    simp only[go_sem,reduceIte,yA,yB,yC,yD,yE,yH,reduceCtorEq,yF,yG,yI,h_eRight,h_eelim,h_gOf,h_gSub,hc,hr,hF,hne,hne2,hne3,z0,z1,yJ,List.map_cons,List.length_cons,Bool.not_true,Bool.not_false,Bool.false_or,natLr,List.headD_cons,List.getElem?_cons_zero,Int.toNat_zero,show (0:Int)≤0 from Int.le_refl 0]
    refine wp_loop_keep [1,6,9,10,12] [190010,190012] (fun ((i,g):Nat × Nat) tm m=>i≤rs.length∧tm 15 = .dat (.int .i64 i)∧tm 14 = .ref 190071 g 4 0 i∧m 190071=some (g,rowE fracL ((kerR rows f rs.length).take i))) (fun (i,_)=>rs.length-i) (0,0) (by refine⟨Nat.zero_le _,rfl,rfl,rfl⟩) ?_
    intro vs ms hvs hms
    simp only[go_sem,reduceIte,yA,yB,yC,yD,yE,yH,reduceCtorEq,yF,yG,yI,h_eRight,h_eelim,h_gOf,h_gSub] at hvs hms
    subst hvs hms
    rintro⟨i,g⟩ tm m hk hm ⟨hiN,h15,h14,hm71⟩
    simp only[go_sem,reduceIte,yA,yB,yC,yD,yE,yH,reduceCtorEq,yF,yG,yI,h_eRight,h_eelim,h_gOf,h_gSub,yM] at hk hm
    obtain⟨h1,h6,h9,h10,h12⟩:=hk
    obtain⟨m10,m12⟩:=hm
    have hkl:(kerR rows f rs.length).length=rs.length:=by simp [kerR]
    rcases Decidable.em (i<rs.length) with hlt | hge
    ·have d1:decide ((i:Int)<(rs.length:Int))=true:=decide_eq_true (by omega)
     have w3:IntKind.i64.wrap ((i:Int)+1)=((i+1:Nat):Int):=by rw[wrap64 _ (by omega) (by omega)];omega
     have htl:((kerR rows f rs.length).take i).length=i:=by rw[List.length_take];omega
     have hat:=kerR_at rows f rs.length hlt
     have hap:∀ (a1:Int) (a2:List Int) (a3:Int) (a4:List Int),(if i<f then (subF zF (cellR (rowR rows i) f)).1 else if i=f then oneF else zF)=((a1,a2),(a3,a4))→appC 190071 g 4 i 64 1 [.dat (.int .i64 a1),.dat (.sl (a2.map i64L)),.dat (.int .i64 a3),.dat (.sl (a4.map i64L))] (some (g,rowE fracL ((kerR rows f rs.length).take i)))=some (.ref 190071 (g+1) 4 0 (i+1),some (190071,g+1,rowE fracL ((kerR rows f rs.length).take (i+1)))):=by
      intro a1 a2 a3 a4 he
      have:=app_row fracL_len fracL_one 190071 g 64 ((kerR rows f rs.length).take i) ((a1,a2),(a3,a4)) (cs:=[.dat (.int .i64 a1),.dat (.sl (a2.map i64L)),.dat (.int .i64 a3),.dat (.sl (a4.map i64L))]) rfl (by omega) (by omega)
      rw[htl] at this
      have hnt:(kerR rows f rs.length).take i++[((a1,a2),(a3,a4))]=(kerR rows f rs.length).take (i+1):=by
       rw[List.take_add_one,hat,he];rfl
      rw[hnt] at this
      exact this
     rcases Nat.lt_trichotomy i f with hif | hif | hif
     ·have d2:decide ((i:Int)<(f:Int))=true:=decide_eq_true (by omega)
      obtain⟨⟨A,⟨v1,v2⟩,⟨v3,v4⟩⟩,hx⟩:∃ x,rows[i]?=some x:=⟨_,yL (by omega)⟩
      obtain⟨hAl,⟨⟨-,hAo⟩,-⟩⟩:=hro.2 _ (List.mem_of_getElem? hx)
      dsimp only at hAl hAo
      obtain⟨⟨⟨f1,f2⟩,⟨f3,f4⟩⟩,hf⟩:∃ q,A[f]?=some q:=⟨_,yL (by omega)⟩
      obtain⟨o1,o2⟩:=hAo _ (List.mem_of_getElem? hf)
      dsimp only at o1 o2
      have hcell:cellR (rowR rows i) f=((f1,f2),(f3,f4)):=by rw[rowR_at hx];exact cellR_get hf
      have hsb:=F_gSub_eq 0 [] 1 [1] f1 f2 f3 f4 ⟨by simp,by simp,o1,o2⟩
      have hzz:((((0:Int),([]:List Int)),((1:Int),[(1:Int)])):FRaw)=zF:=rfl
      rw[hzz] at hsb
      rcases hM:subF zF ((f1,f2),(f3,f4)) with ⟨⟨⟨p1,p2⟩,⟨p3,p4⟩⟩,pe⟩
      rw[hM] at hsb
      simp only[fracE,fracL,List.map_nil,List.map_cons,i64L] at hsb
      have hp:=hap p1 p2 p3 p4 (by rw[if_pos hif,hcell,hM])
      simp only[go_sem,reduceIte,yA,yB,yC,yD,yE,yH,reduceCtorEq,yF,yG,yI,h_eRight,h_eelim,h_gOf,h_gSub,h1,h6,h9,h10,h12,h14,h15,m10,m12,hm71,d1,d2,w3,hx,hf,hsb,hp,rowL,fracL,i64L,yJ,yK]
      exact⟨(i+1,g+1),by dsimp only;omega,by dsimp only;omega,rfl,rfl,rfl⟩
     ·have d2:decide ((i:Int)<(f:Int))=false:=decide_eq_false (by omega)
      have d3:((i:Int)==(f:Int))=true:=by rw[beq_iff_eq];omega
      have hp:=hap 1 [1] 1 [1] (by rw[if_neg (by omega),if_pos hif];rfl)
      simp only[List.map_nil,List.map_cons,i64L] at hp
      simp only[go_sem,reduceIte,yA,yB,yC,yD,yE,yH,reduceCtorEq,yF,yG,yI,h_eRight,h_eelim,h_gOf,h_gSub,h1,h6,h9,h10,h12,h14,h15,m10,m12,hm71,d1,d2,d3,w3,hp,i64L]
      exact⟨(i+1,g+1),by dsimp only;omega,by dsimp only;omega,rfl,rfl,rfl⟩
     ·have d2:decide ((i:Int)<(f:Int))=false:=decide_eq_false (by omega)
      have d3:((i:Int)==(f:Int))=false:=by rw[beq_eq_false_iff_ne];omega
      have hp:=hap 0 [] 1 [1] (by rw[if_neg (by omega),if_neg (by omega)];rfl)
      simp only[List.map_nil,List.map_cons,i64L] at hp
      simp only[go_sem,reduceIte,yA,yB,yC,yD,yE,yH,reduceCtorEq,yF,yG,yI,h_eRight,h_eelim,h_gOf,h_gSub,h1,h6,h9,h10,h12,h14,h15,m10,m12,hm71,d1,d2,d3,w3,hp,i64L]
      exact⟨(i+1,g+1),by dsimp only;omega,by dsimp only;omega,rfl,rfl,rfl⟩
    ·obtain rfl:i=rs.length:=by omega
     have d1:decide ((rs.length:Int)<(rs.length:Int))=false:=decide_eq_false (by omega)
     rw[List.take_of_length_le (by omega)] at hm71
     have hD:toD 5 m (.ref 190071 g 4 0 rs.length)=some (.sl ((kerR rows f rs.length).map fracL)):=by
      have:=toD_row (n:=4) fracL_len hm71
      rw[hkl] at this
      exact this
     simp only[go_sem,reduceIte,yA,yB,yC,yD,yE,yH,reduceCtorEq,yF,yG,yI,h_eRight,h_eelim,h_gOf,h_gSub,h1,h6,h9,h10,h12,h14,h15,d1,hD]
/-- A row's sum is its value. -/
def holdsR (x:List FRaw) (r:RowD):Bool:=match sumGo zF r.1 x with
 | none=>false
 | some s=>sameF s r.2
def rcheckX (rs:List RowD) (n:Int) (x:List FRaw):Bool:=rightS rs n&&(((x.length:Int)==n)&&(!(x.any badF)&&rs.all (holdsR x)))
theorem sumGo_step {s a y:FRaw} {al xs:List FRaw}:sumGo s (a::al) (y::xs)=if ((mulF a y).2==0&&(addF s (mulF a y).1).2==0)=true then sumGo (addF s (mulF a y).1).1 al xs else none:=rfl
noncomputable def F_echeck:List Data→Option PRes:=FF (α:=(List RowD) × Int × (List FRaw)) (fun (rs,n,x)=>([.sl (rs.map rowL),.int .i64 n,.sl (x.map fracL)]:List Data)) (fun (rs,n,x)=>onlyIf (okRows rs∧okL x) (.same (.bool (rcheckX rs n x))))
theorem F_echeck_inj:∀ a b:(List RowD) × Int × (List FRaw),(fun (rs,n,x)=>([.sl (rs.map rowL),.int .i64 n,.sl (x.map fracL)]:List Data)) a=(fun (rs,n,x)=>([.sl (rs.map rowL),.int .i64 n,.sl (x.map fracL)]:List Data)) b→a=b:=by
  rintro⟨rs1,n1,x1⟩ ⟨rs2,n2,x2⟩ h
  simp only[yM,Data.sl.injEq,Data.int.injEq] at h;exact Prod.ext (map_inj rowL_inj _ _ h.1) (Prod.ext h.2.1.2 (map_inj fracL_inj _ _ h.2.2.1))
@[go_sem] theorem F_echeck_eq (rs:List RowD) (n:Int) (x:List FRaw) (hc:okRows rs∧okL x):F_echeck [.sl (rs.map rowL),.int .i64 n,.sl (x.map fracL)]=some (.same (.bool (rcheckX rs n x))):=(FF_eq F_echeck_inj (rs,n,x)).trans (onlyIf_pos hc _)
theorem w_echeck (T:Tab) (h_eRight:T id_ref06_Right=mkE F_eRight) (h_gRight:T id_ref05_Right=mkE F_gRight) (h_gOf:T id_ref05_Of=mkE F_gOf) (h_gMul:T id_ref05_Mul=mkE F_gMul) (h_gAdd:T id_ref05_Add=mkE F_gAdd) (h_gSame:T id_ref05_Same=mkE F_gSame) (rs:List RowD) (n:Int) (x:List FRaw) (hc:okRows rs∧okL x) :
  wp T mf_ref06_Check.body (endS mf_ref06_Check.res (.same (.bool (rcheckX rs n x)))) ⟨initTm [.dat (.sl (rs.map rowL)),.dat (.int .i64 n),.dat (.sl (x.map fracL))],emp⟩:=by
 refine wp_start ?_
 simp only[mf_ref06_Check]
 obtain⟨hc,hxk⟩:=hc
 unfold rcheckX
 rcases hr:rightS rs n
 ·simp only[go_sem,reduceIte,yA,yB,yC,yD,yE,yH,reduceCtorEq,yF,yG,yI,h_eRight,h_gRight,h_gOf,h_gMul,h_gAdd,h_gSame,hc,hr,Bool.not_false,Bool.false_and]
 obtain⟨rfl,hN,hok⟩:=rightS_rowsOK hc hr
 rcases hxl:((x.length:Int)==((rs.length:Nat):Int))
 ·simp only[go_sem,reduceIte,yA,yB,yC,yD,yE,yH,reduceCtorEq,yF,yG,yI,h_eRight,h_gRight,h_gOf,h_gMul,h_gAdd,h_gSame,hc,hr,hxl,yJ,Bool.not_false,Bool.not_true,Bool.true_and,Bool.false_and,bne]
 have hxn:x.length=rs.length:=by have:=beq_iff_eq.1 hxl;omega
 have z0:=F_gOf_eq 0 1 ⟨by unfold i64R;omega,by unfold i64R;omega⟩
 rw[new_zero] at z0
 simp only[fracE,fracL,zF,List.map_nil,List.map_cons,i64L] at z0
 simp only[go_sem,reduceIte,yA,yB,yC,yD,yE,yH,reduceCtorEq,yF,yG,yI,h_eRight,h_gRight,h_gOf,h_gMul,h_gAdd,h_gSame,hc,hr,hxl,yJ,Bool.not_false,Bool.not_true,Bool.true_and,bne]
 refine wp_loop_keep [0,1,2] [] (fun (i:Nat) tm m=>i≤rs.length∧(∀ f∈x.take i,badF f=false)∧tm 7 = .dat (.int .i64 i)) (fun i=>rs.length-i) 0 (by refine⟨Nat.zero_le _,by simp,rfl⟩) ?_
 intro vs ms hvs hms
 simp only[go_sem,reduceIte,yA,yB,yC,yD,yE,yH,reduceCtorEq,yF,yG,yI,h_eRight,h_gRight,h_gOf,h_gMul,h_gAdd,h_gSame] at hvs hms
 subst hvs hms
 rintro i tm m hk-⟨hiN,hall,h7⟩
 simp only[go_sem,reduceIte,yA,yB,yC,yD,yE,yH,reduceCtorEq,yF,yG,yI,h_eRight,h_gRight,h_gOf,h_gMul,h_gAdd,h_gSame,yM] at hk
 obtain⟨h0,h1,h2⟩:=hk
 rcases Decidable.em (i<rs.length) with hlt | hge
 ·obtain⟨⟨⟨a1,a2⟩,⟨a3,a4⟩⟩,hx⟩:∃ f,x[i]?=some f:=⟨_,yL (by omega)⟩
  obtain⟨o1,o2⟩:=hxk.2 _ (List.mem_of_getElem? hx)
  dsimp only at o1 o2
  have d1:decide ((i:Int)<(rs.length:Int))=true:=decide_eq_true (by omega)
  have w3:IntKind.i64.wrap ((i:Int)+1)=((i+1:Nat):Int):=by rw[wrap64 _ (by omega) (by omega)];omega
  rcases hf:rightF ((a1,a2),(a3,a4))
  ·have hb:x.any badF=true:=List.any_eq_true.2 ⟨_,List.mem_of_getElem? hx,by unfold badF;rw[hf];rfl⟩
   rw[hb]
   simp only[go_sem,reduceIte,yA,yB,yC,yD,yE,yH,reduceCtorEq,yF,yG,yI,h_eRight,h_gRight,h_gOf,h_gMul,h_gAdd,h_gSame,h0,h1,h2,h7,d1,hx,o1,o2,hf,fracL,yJ,yK,Bool.not_false,Bool.not_true,Bool.false_and]
  ·simp only[go_sem,reduceIte,yA,yB,yC,yD,yE,yH,reduceCtorEq,yF,yG,yI,h_eRight,h_gRight,h_gOf,h_gMul,h_gAdd,h_gSame,h0,h1,h2,h7,d1,w3,hx,o1,o2,hf,fracL,yJ,yK,Bool.not_true]
   exact⟨i+1,by omega,by omega,take_succ_all hall hx (by unfold badF;rw[hf];rfl),rfl⟩
 ·obtain rfl:i=rs.length:=by omega
  have d1:decide ((rs.length:Int)<(rs.length:Int))=false:=decide_eq_false (by omega)
  rw[List.take_of_length_le (by omega)] at hall
  have hb:x.any badF=false:=List.any_eq_false.2 fun f hf=>by rw[hall f hf];simp
  rw[hb]
  simp only[go_sem,reduceIte,yA,yB,yC,yD,yE,yH,reduceCtorEq,yF,yG,yI,h_eRight,h_gRight,h_gOf,h_gMul,h_gAdd,h_gSame,h0,h1,h2,h7,d1,Bool.not_false,Bool.true_and]
  clear hall h7 d1
  refine wp_loop_keep [0,1,2] [] (fun (i:Nat) tm m=>i≤rs.length∧rs.all (holdsR x)=(rs.drop i).all (holdsR x)∧tm 8 = .dat (.int .i64 i)) (fun i=>rs.length-i) 0 (by refine⟨Nat.zero_le _,rfl,rfl⟩) ?_
  intro vs ms hvs hms
  simp only[go_sem,reduceIte,yA,yB,yC,yD,yE,yH,reduceCtorEq,yF,yG,yI,h_eRight,h_gRight,h_gOf,h_gMul,h_gAdd,h_gSame,h0,h1,h2] at hvs hms
  subst hvs hms
  clear h0 h1 h2 tm m
  rintro i tm m hk-⟨hiN,hall,h8⟩
  simp only[go_sem,reduceIte,yA,yB,yC,yD,yE,yH,reduceCtorEq,yF,yG,yI,h_eRight,h_gRight,h_gOf,h_gMul,h_gAdd,h_gSame,yM] at hk
  obtain⟨h0,h1,h2⟩:=hk
  rcases Decidable.em (i<rs.length) with hlt | hge
  ·obtain⟨⟨A,⟨v1,v2⟩,⟨v3,v4⟩⟩,hri⟩:∃ r,rs[i]?=some r:=⟨_,yL (by omega)⟩
   obtain⟨hAl,⟨hAL,hAo⟩,hV1,hV2⟩:=hok.2 _ (List.mem_of_getElem? hri)
   dsimp only at hAl hAL hAo hV1 hV2
   have hdrop:rs.drop i=(A,((v1,v2),(v3,v4)))::rs.drop (i+1):=by
    obtain⟨hl,e⟩:=List.getElem?_eq_some_iff.1 hri
    rw[List.drop_eq_getElem_cons hl,e]
   rw[hdrop,List.all_cons] at hall
   have d1:decide ((i:Int)<(rs.length:Int))=true:=decide_eq_true (by omega)
   have w3:IntKind.i64.wrap ((i:Int)+1)=((i+1:Nat):Int):=by rw[wrap64 _ (by omega) (by omega)];omega
   simp only[go_sem,reduceIte,yA,yB,yC,yD,yE,yH,reduceCtorEq,yF,yG,yI,h_eRight,h_gRight,h_gOf,h_gMul,h_gAdd,h_gSame,h0,h1,h2,h8,d1,z0]
   refine wp_loop_keep [0,1,2,8,9] [] (fun ((k,s):Nat × FRaw) tm' m'=>k≤rs.length∧okF s∧sumGo zF A x=sumGo s (A.drop k) (x.drop k)∧tm' 11 = .dat (.int .i64 k)∧m' 193009=some (nextO (m 193009),fracM s)) (fun (k,_)=>rs.length-k) (0,zF) (by refine⟨Nat.zero_le _,⟨by simp [zF],by simp [zF]⟩,rfl,rfl,?_⟩;simp [updM,fracM,zF,i64L]) ?_
   intro vs ms hvs hms
   simp only[go_sem,reduceIte,yA,yB,yC,yD,yE,yH,reduceCtorEq,yF,yG,yI,h_eRight,h_gRight,h_gOf,h_gMul,h_gAdd,h_gSame,h0,h1,h2,h8] at hvs hms
   subst hvs hms
   clear h0 h1 h2 h8
   rintro⟨k,⟨s1,s2⟩,⟨s3,s4⟩⟩ tm' m' hk'-⟨hkN,⟨hs1,hs2⟩,hgo,h11,hm9⟩
   simp only[go_sem,reduceIte,yA,yB,yC,yD,yE,yH,reduceCtorEq,yF,yG,yI,h_eRight,h_gRight,h_gOf,h_gMul,h_gAdd,h_gSame,yM,fracM] at hk' hm9
   obtain⟨h0,h1,h2,h8,h9⟩:=hk'
   dsimp only at hs1 hs2
   rcases Decidable.em (k<rs.length) with hklt | hkge
   ·obtain⟨⟨⟨a1,a2⟩,⟨a3,a4⟩⟩,hak⟩:∃ f,A[k]?=some f:=⟨_,yL (by omega)⟩
    obtain⟨⟨⟨b1,b2⟩,⟨b3,b4⟩⟩,hbk⟩:∃ f,x[k]?=some f:=⟨_,yL (by omega)⟩
    obtain⟨o1,o2⟩:=hAo _ (List.mem_of_getElem? hak)
    obtain⟨o3,o4⟩:=hxk.2 _ (List.mem_of_getElem? hbk)
    dsimp only at o1 o2 o3 o4
    have hda:A.drop k=((a1,a2),(a3,a4))::A.drop (k+1):=by
     obtain⟨hl,e⟩:=List.getElem?_eq_some_iff.1 hak
     rw[List.drop_eq_getElem_cons hl,e]
    have hdb:x.drop k=((b1,b2),(b3,b4))::x.drop (k+1):=by
     obtain⟨hl,e⟩:=List.getElem?_eq_some_iff.1 hbk
     rw[List.drop_eq_getElem_cons hl,e]
    rw[hda,hdb,sumGo_step] at hgo
    have d2:decide ((k:Int)<(rs.length:Int))=true:=decide_eq_true (by omega)
    have w4:IntKind.i64.wrap ((k:Int)+1)=((k+1:Nat):Int):=by rw[wrap64 _ (by omega) (by omega)];omega
    have om:=okF_mul ((a1,a2),(a3,a4)) ((b1,b2),(b3,b4))
    rcases hM:mulF ((a1,a2),(a3,a4)) ((b1,b2),(b3,b4)) with ⟨⟨⟨p1,p2⟩,⟨p3,p4⟩⟩,pe⟩
    rw[hM] at om hgo
    obtain⟨om1,om2⟩:=om
    dsimp only at om1 om2 hgo
    have oa:=okF_add ((s1,s2),(s3,s4)) ((p1,p2),(p3,p4))
    rcases hA:addF ((s1,s2),(s3,s4)) ((p1,p2),(p3,p4)) with ⟨⟨⟨q1,q2⟩,⟨q3,q4⟩⟩,qe⟩
    rw[hA] at oa hgo
    obtain⟨oa1,oa2⟩:=oa
    dsimp only at oa1 oa2 hgo
    have hbad:sumGo zF A x=none→rs.all (holdsR x)=false:=fun h=>by
     rw[hall]
     unfold holdsR
     rw[h]
     rfl
    rcases hpe:(pe==0)
    ·rw[hpe] at hgo
     rw[hbad (by rw[hgo];rfl)]
     simp only[go_sem,reduceIte,yA,yB,yC,yD,yE,yH,reduceCtorEq,yF,yG,yI,h_eRight,h_gRight,h_gOf,h_gMul,h_gAdd,h_gSame,h0,h1,h2,h8,h9,h11,hm9,d2,hri,hak,hbk,o1,o2,o3,o4,hM,hpe,rowL,fracL,fracE,yJ,yK,Bool.not_false,bne]
    rcases hqe:(qe==0)
    ·rw[hpe,hqe] at hgo
     rw[hbad (by rw[hgo];rfl)]
     simp only[go_sem,reduceIte,yA,yB,yC,yD,yE,yH,reduceCtorEq,yF,yG,yI,h_eRight,h_gRight,h_gOf,h_gMul,h_gAdd,h_gSame,h0,h1,h2,h8,h9,h11,hm9,d2,hri,hak,hbk,o1,o2,o3,o4,om1,om2,hs1,hs2,hM,hA,hpe,hqe,rowL,fracL,fracE,yJ,yK,Bool.not_false,Bool.not_true,bne]
    rw[hpe,hqe] at hgo
    simp only[go_sem,reduceIte,yA,yB,yC,yD,yE,yH,reduceCtorEq,yF,yG,yI,h_eRight,h_gRight,h_gOf,h_gMul,h_gAdd,h_gSame,h0,h1,h2,h8,h9,h11,hm9,d2,w4,hri,hak,hbk,o1,o2,o3,o4,om1,om2,hs1,hs2,hM,hA,hpe,hqe,rowL,fracL,fracE,yJ,yK,Bool.not_false,Bool.not_true,bne]
    exact⟨(k+1,((q1,q2),(q3,q4))),by dsimp only;omega,by dsimp only;omega,⟨oa1,oa2⟩,by rw[hgo];rfl,rfl,by simp [fracM]⟩
   ·obtain rfl:k=rs.length:=by omega
    have d2:decide ((rs.length:Int)<(rs.length:Int))=false:=decide_eq_false (by omega)
    have hda:A.drop rs.length=[]:=List.drop_eq_nil_of_le (by omega)
    rw[hda] at hgo
    have hgo':sumGo zF A x=some ((s1,s2),(s3,s4)):=by rw[hgo];rfl
    have hh:holdsR x (A,((v1,v2),(v3,v4)))=sameF ((s1,s2),(s3,s4)) ((v1,v2),(v3,v4)):=by unfold holdsR;rw[hgo']
    rw[hh] at hall
    rcases hsm:sameF ((s1,s2),(s3,s4)) ((v1,v2),(v3,v4))
    ·rw[hsm,Bool.false_and] at hall
     rw[hall]
     simp only[go_sem,reduceIte,yA,yB,yC,yD,yE,yH,reduceCtorEq,yF,yG,yI,h_eRight,h_gRight,h_gOf,h_gMul,h_gAdd,h_gSame,h0,h1,h2,h8,h9,h11,hm9,d2,hri,hs1,hs2,hV1,hV2,hsm,rowL,fracL,yJ,yK,Bool.not_false]
    ·rw[hsm,Bool.true_and] at hall
     simp only[go_sem,reduceIte,yA,yB,yC,yD,yE,yH,reduceCtorEq,yF,yG,yI,h_eRight,h_gRight,h_gOf,h_gMul,h_gAdd,h_gSame,h0,h1,h2,h8,h9,h11,hm9,d2,w3,hri,hs1,hs2,hV1,hV2,hsm,rowL,fracL,yJ,yK,Bool.not_true]
     exact⟨i+1,by omega,by omega,hall,rfl⟩
  ·obtain rfl:i=rs.length:=by omega
   have d1:decide ((rs.length:Int)<(rs.length:Int))=false:=decide_eq_false (by omega)
   rw[List.drop_eq_nil_of_le (by omega)] at hall
   rw[hall]
   simp only[go_sem,reduceIte,yA,yB,yC,yD,yE,yH,reduceCtorEq,yF,yG,yI,h_eRight,h_gRight,h_gOf,h_gMul,h_gAdd,h_gSame,h0,h1,h2,h8,d1,List.all_nil]
end Go.Mini
namespace Go.Mini
open Go
set_option maxRecDepth 10000
set_option maxHeartbeats 1000000
def catR (r:RowD):List FRaw:=r.1++[r.2]
def RelL (X:List MR) (R:List RowD):Prop:=X.map (·.2.2)=R.map catR
theorem RelL.len {X:List MR} {R:List RowD} (h:RelL X R):X.length=R.length:=by
 have:=congrArg List.length h
 simpa using this
theorem RelL.at_ {X:List MR} {R:List RowD} (h:RelL X R) {i:Nat} {x:MR} {r:RowD} (hx:X[i]?=some x) (hr:R[i]?=some r):x.2.2=catR r:=by
 have:=congrArg (fun l:List (List FRaw)=>l[i]?) h
 simp only[yK,hx,hr,Option.map_some,Option.some.injEq] at this
 exact this
theorem cat_cell {N c:Nat} {x:MR} {r:RowD} (h:x.2.2=catR r) (hl:r.1.length=N) (hc:c<N):cellOf x c=cellR r c:=by
 unfold cellOf cellR
 rw[h,List.getD_eq_getElem?_getD,List.getD_eq_getElem?_getD]
 unfold catR
 rw[List.getElem?_append_left (by omega)]
theorem until_flag {α:Type} {op:α→FRaw × Int} {e:α→FRaw}:∀ l:List α,(untilG op e l).2=l.all fun a=>(op a).2==0
 | []=>rfl
 | a::r=>by
  unfold untilG
  rw[List.all_cons]
  rcases h:((op a).2==0)
  ·rfl
  ·simp only[if_true,Bool.true_and];exact until_flag r
theorem until_map {α:Type} {op:α→FRaw × Int} {e:α→FRaw} {l:List α} (h:(l.all fun a=>(op a).2==0)=true):(untilG op e l).1=l.map fun a=>(op a).1:=by
 rw[until_ok fun a ha=>by have:=List.all_eq_true.1 h a ha;simpa using this]
theorem any_ne {α:Type} (f:α→Int) (l:List α):(l.any fun a=>f a != 0) = !(l.all fun a=>f a==0):=by
 rw[List.not_all_eq_any_not]
 rfl
theorem div_rel (r:RowD) (c:Nat):(divRow (cellR r c) (catR r)).2 = !(divX r c).2∧((divX r c).2=true→(divRow (cellR r c) (catR r)).1=catR (divX r c).1):=by
 have hc:r.1.getD c zeroF=cellR r c:=rfl
 unfold divRow divX catR
 rw[hc,any_ne,List.all_append,until_flag]
 rcases h:(r.1.all fun a=>(divF a (cellR r c)).2==0)
 ·simp
 ·rw[until_map h]
  simp
theorem less_flag (a f b:FRaw):((lessF a f b).2==0)=((mulF f b).2==0&&(subF a (mulF f b).1).2==0):=by
 unfold lessF
 rcases h:((mulF f b).2==0)
 ·simp only[yH,if_false,Bool.false_and,h]
 ·simp only[if_true,Bool.true_and]
theorem less_val {a f b:FRaw} (h:((lessF a f b).2==0)=true):(lessF a f b).1=(subF a (mulF f b).1).1:=by
 rw[less_flag,Bool.and_eq_true] at h
 unfold lessF
 rw[if_pos h.1]
theorem go_rel (f:FRaw):∀ (l p:List FRaw),l.length=p.length→(elimGo f l p false).2 = !((l.zip p).all fun a=>(lessF a.1 f a.2).2==0)∧(((l.zip p).all fun a=>(lessF a.1 f a.2).2==0)=true→(elimGo f l p false).1=(l.zip p).map fun a=>(lessF a.1 f a.2).1)
 | [],[],_=>by simp [elimGo]
 | a::l,[],h=>by simp at h
 | [],b::p,h=>by simp at h
 | a::l,b::p,h=>by
  obtain⟨i1,i2⟩:=go_rel f l p (by simpa using h)
  have hfl:((mulF f b).2 != 0||(subF a (mulF f b).1).2 != 0) = !((lessF a f b).2==0):=by
   rw[less_flag]
   simp only[bne,Bool.not_and]
  simp only[elimGo,List.zip_cons_cons,List.all_cons,List.map_cons]
  rw[hfl]
  rcases hk:((lessF a f b).2==0)
  ·rw[Bool.not_false,elimGo_bad]
   simp
  ·rw[Bool.not_true]
   refine⟨by rw[i1];simp,fun hh=>?_⟩
   rw[Bool.true_and] at hh
   rw[i2 hh,less_val hk]
theorem red_rel {x p:RowD} (h:x.1.length=p.1.length) (c:Nat):(elimGo (cellR x c) (catR x) (catR p) false).2 = !(redX x p c).2∧((redX x p c).2=true→(elimGo (cellR x c) (catR x) (catR p) false).1=catR (redX x p c).1):=by
 have hc:x.1.getD c zeroF=cellR x c:=rfl
 obtain⟨g1,g2⟩:=go_rel (cellR x c) (catR x) (catR p) (by simp [catR,h])
 have hz:(catR x).zip (catR p)=x.1.zip p.1++[(x.2,p.2)]:=by
  unfold catR
  rw[List.zip_append h]
  rfl
 rw[hz,List.all_append] at g1 g2
 unfold redX
 rw[hc,until_flag]
 rcases hk:((x.1.zip p.1).all fun a:FRaw × FRaw=>(lessF a.1 (cellR x c) a.2).2==0)
 ·rw[hk] at g1
  simp only[Bool.false_and,Bool.not_false] at g1
  rw[g1]
  simp
 ·rw[hk] at g1 g2
  simp only[List.all_cons,List.all_nil,Bool.and_true,Bool.true_and] at g1 g2
  rw[g1,until_map hk]
  simp only[if_true]
  refine⟨trivial,fun hh=>?_⟩
  rw[g2 hh,List.map_append]
  rfl
theorem elimRows_bad' (prow:List FRaw) (r c:Nat):∀ (i:Nat) (l:List MR),(elimRows prow r c i l true).2=true
 | _,[]=>rfl
 | i,x::xs=>by
  unfold elimRows
  split
  ·exact elimRows_bad' prow r c (i+1) xs
  ·rw[elimGo_bad];exact elimRows_bad' prow r c (i+1) xs
theorem rows_rel {N r c:Nat} {p:RowD} (hp:p.1.length=N) (hc:c<N):∀ (i:Nat) (X:List MR) (R:List RowD),RelL X R→(∀ y∈R,y.1.length=N) →
  (elimRows (catR p) r c i X false).2 = !(redRows p r c i R).2∧((redRows p r c i R).2=true→RelL (elimRows (catR p) r c i X false).1 (redRows p r c i R).1)
 | i,[],[],_,_=>by simp [elimRows,redRows,RelL]
 | i,x::X,[],h,_=>by simp [RelL] at h
 | i,[],y::R,h,_=>by simp [RelL] at h
 | i,x::X,y::R,h,hl=>by
  unfold RelL at h
  rw[List.map_cons,List.map_cons,yM] at h
  obtain⟨hxy,hXR⟩:=h
  have hyN:=hl y List.mem_cons_self
  obtain⟨i1,i2⟩:=rows_rel (r:=r) hp hc (i+1) X R hXR fun z hz=>hl z (List.mem_cons_of_mem _ hz)
  have hcell:=cat_cell hxy hyN hc
  unfold elimRows
  rw[hcell,hxy]
  by_cases hs:(i==r||zeroQ (cellR y c))=true
  ·rw[if_pos hs,redRows_skip hs]
   refine⟨i1,fun hh=>?_⟩
   have:=i2 hh
   unfold RelL at this ⊢
   rw[List.map_cons,List.map_cons,this,hxy]
  ·rw[if_neg hs]
   obtain⟨g1,g2⟩:=red_rel (x:=y) (p:=p) (by omega) c
   rcases hk:(redX y p c).2
   ·rw[redRows_bad hs hk]
    rw[hk] at g1
    dsimp only
    rw[g1,Bool.not_false,elimRows_bad']
    simp
   ·rw[redRows_step hs hk]
    rw[hk] at g1
    dsimp only
    rw[g1,Bool.not_true]
    refine⟨i1,fun hh=>?_⟩
    have:=i2 hh
    unfold RelL at this ⊢
    rw[List.map_cons,List.map_cons,this,g2 hk]
theorem find_rel {N r c:Nat} {X:List MR} {R:List RowD} (h:RelL X R) (hl:∀ y∈R,y.1.length=N) (hc:c<N):findAt X r c=findR R r c:=by
 have hz:(X.drop r).map (fun x => !zeroQ (cellOf x c))=(R.drop r).map fun x => !zeroQ (cellR x c):=by
  apply List.ext_getElem?
  intro i
  rw[yK,yK,List.getElem?_drop,List.getElem?_drop]
  have hlen:=h.len
  rcases Nat.lt_or_ge (r+i) R.length with hi | hi
  ·have hx:X[r+i]?=some X[r+i]:=yL (by omega)
   have hr:R[r+i]?=some R[r+i]:=yL hi
   rw[hx,hr,Option.map_some,Option.map_some,cat_cell (h.at_ hx hr) (hl _ (List.getElem_mem hi)) hc]
  ·rw[List.getElem?_eq_none (by omega),List.getElem?_eq_none hi]
   rfl
 have h1:∀ (l:List MR),(l.findIdx fun x => !zeroQ (cellOf x c))=(l.map fun x => !zeroQ (cellOf x c)).findIdx id:=fun l=>by rw[List.findIdx_map];rfl
 have h2:∀ (l:List RowD),(l.findIdx fun x => !zeroQ (cellR x c))=(l.map fun x => !zeroQ (cellR x c)).findIdx id:=fun l=>by rw[List.findIdx_map];rfl
 unfold findAt findR
 rw[h1,h2,hz]
theorem RelL.set {X:List MR} {R:List RowD} (h:RelL X R) {i:Nat} {x:MR} {r:RowD} (hxr:x.2.2=catR r):RelL (X.set i x) (R.set i r):=by
 unfold RelL at h ⊢
 rw[List.map_set,List.map_set,h,hxr]
theorem elim_rel (stop:Bool) {N:Nat}:∀ (k c:Nat) (X:List MR) (R:List RowD) (r:Nat) (free:List Nat),c+k=N→r+free.length=c→RelL X R→RowsOK N R →
  (elimX stop k c X free false).2.2 = !(elimR stop k c R r free).2.2∧((elimR stop k c R r free).2.2=true→RelL (elimX stop k c X free false).1 (elimR stop k c R r free).1∧(elimX stop k c X free false).2.1=(elimR stop k c R r free).2.1)
 | 0,c,X,R,r,free,_,_,h,_=>⟨rfl,fun _=>⟨h,rfl⟩⟩
 | k+1,c,X,R,r,free,hc,hr,h,hok=>by
  have hcN:c<N:=by omega
  have hlN:∀ y∈R,y.1.length=N:=fun y hy=>(hok.2 y hy).1
  have hlen:=h.len
  have hRl:=hok.1
  have hfind:=find_rel (r:=r) h hlN hcN
  have hcr:c-free.length=r:=by omega
  unfold elimX
  rw[hcr]
  by_cases hf:findR R r c=R.length
  ·have hp:pivX X r c=(true,X,false):=by unfold pivX;rw[hfind,if_pos (by rw[hlen];exact hf)]
   rw[elimR_free hf,hp]
   rw[if_pos rfl]
   cases stop
   ·rw[if_neg (by simp),if_neg (by simp)]
    exact elim_rel false k (c+1) X R r (free++[c]) (by omega) (by simp;omega) h hok
   ·rw[if_pos rfl,if_pos rfl]
    exact⟨rfl,fun _=>⟨h,rfl⟩⟩
  ·have hp:pivX X r c=(false,elimRows (divRow (cellOf (rowAt (swapped X r (findR R r c)) r) c) (rowAt (swapped X r (findR R r c)) r).2.2).1 r c 0 (divided (swapped X r (findR R r c)) r c) (divRow (cellOf (rowAt (swapped X r (findR R r c)) r) c) (rowAt (swapped X r (findR R r c)) r).2.2).2):=by unfold pivX;rw[hfind,if_neg (by rw[hlen];exact hf)]
   rw[hp]
   rw[if_neg (by simp)]
   have hle:=findR_le R r c (by omega)
   generalize hs:findR R r c=s at *
   have hsN:s<N:=by omega
   have hrN:r<N:=by omega
   obtain⟨xs,hxs⟩:∃ x,X[s]?=some x:=⟨_,yL (by omega)⟩
   obtain⟨ys,hys⟩:∃ x,R[s]?=some x:=⟨_,yL (by omega)⟩
   obtain⟨xr,hxr⟩:∃ x,X[r]?=some x:=⟨_,yL (by omega)⟩
   obtain⟨yr,hyr⟩:∃ x,R[r]?=some x:=⟨_,yL (by omega)⟩
   have hsw:swapped X r s=(X.set r xs).set s xr:=by unfold swapped;rw[row_at hxs,row_at hxr]
   have hswR:swapR R r s=(R.set r ys).set s yr:=by unfold swapR;rw[rowR_at hys,rowR_at hyr]
   have hrel:RelL ((X.set r xs).set s xr) ((R.set r ys).set s yr):=(h.set (h.at_ hxs hys)).set (h.at_ hxr hyr)
   have hswX:((X.set r xs).set s xr)[r]?=some xs:=swap_get hxs hxr
   have hswY:((R.set r ys).set s yr)[r]?=some ys:=swap_get hys hyr
   have hxy:=h.at_ hxs hys
   have hys':=hok.2 _ (List.mem_of_getElem? hys)
   have hokS:RowsOK N ((R.set r ys).set s yr):=(hok.set hys').set (hok.2 _ (List.mem_of_getElem? hyr))
   rw[elimR_div (by rw[hs];exact hf) (by rw[hs];exact hswR) (rowR_at hswY)]
   unfold divided
   rw[hsw,row_at hswX,hxy,cat_cell hxy hys'.1 hcN]
   obtain⟨d1,d2⟩:=div_rel ys c
   rcases hd:(divX ys c).2
   ·rw[hd] at d1
    rw[d1,Bool.not_false,if_neg (by simp)]
    have hb:=fun l=>elimRows_bad' (divRow (cellR ys c) (catR ys)).1 r c 0 l
    rw[hb,elimX_bad]
    exact⟨rfl,fun hh=>absurd hh (by simp)⟩
   ·rw[hd] at d1
    rw[d1,Bool.not_true,if_pos rfl,d2 hd]
    have hdo:=divX_ok hys' c
    have hrel2:RelL (((X.set r xs).set s xr).set r (xs.1,xs.2.1,catR (divX ys c).1)) (((R.set r ys).set s yr).set r (divX ys c).1):=hrel.set rfl
    have hok2:=hokS.set (i:=r) hdo
    obtain⟨r1,r2⟩:=rows_rel (r:=r) hdo.1 hcN 0 _ _ hrel2 fun y hy=>(hok2.2 y hy).1
    have hro:=redRows_ok (p:=(divX ys c).1) (r:=r) (c:=c) hdo.1 0 _ hok2.2
    rcases hrr:(redRows (divX ys c).1 r c 0 (((R.set r ys).set s yr).set r (divX ys c).1)).2
    ·rw[hrr] at r1
     rw[r1,Bool.not_false,elimX_bad,if_neg (by simp)]
     exact⟨rfl,fun hh=>absurd hh (by simp)⟩
    ·rw[hrr] at r1
     rw[r1,Bool.not_true,if_pos rfl]
     exact elim_rel stop k (c+1) _ _ (r+1) free (by omega) (by omega) (r2 hrr) ⟨hro.1.trans hok2.1,hro.2⟩
theorem aug_rel (rs:List RowD):RelL (augOf rs) rs:=by
 unfold RelL augOf
 rw[List.map_map]
 apply List.ext_getElem?
 intro i
 rw[yK,yK,List.getElem?_zipIdx]
 cases rs[i]?<;>rfl
theorem elimS_rel (stop:Bool) {rs:List RowD} (hok:RowsOK rs.length rs):(elimS stop rs).2.2 = !(elimT stop rs).2.2∧((elimT stop rs).2.2=true→RelL (elimS stop rs).1 (elimT stop rs).1∧(elimS stop rs).2.1=(elimT stop rs).2.1) :=
 elim_rel stop rs.length 0 (augOf rs) rs 0 [] (by omega) rfl (aug_rel rs) hok
theorem solve_eq {rs:List RowD} (ho:okRows rs) (n:Int):solveX rs n=rsolveX rs n:=by
 unfold solveX rsolveX
 rcases hr:rightS rs n
 ·rfl
 obtain⟨rfl,hN,hok⟩:=rightS_rowsOK ho hr
 obtain⟨h1,h2⟩:=elimS_rel true hok
 have hro:=elimR_ok true rs.length 0 rs 0 [] (by omega) (by omega) hok
 change RowsOK rs.length (elimT true rs).1 at hro
 rcases hT:(elimT true rs).2.2
 ·rw[h1,hT];rfl
 ·obtain⟨h3,h4⟩:=h2 hT
  rw[h1,hT,h4]
  simp only[if_true,Bool.not_true,yH,if_false]
  split
  ·rfl
  ·rw[Prod.mk.injEq]
   refine⟨?_,rfl⟩
   apply List.ext_getElem?
   intro i
   rw[yK,yK]
   have hlen:=h3.len
   rcases Nat.lt_or_ge i (elimT true rs).1.length with hi | hi
   ·have hx:(elimS true rs).1[i]?=some _:=yL (by omega)
    have hy:(elimT true rs).1[i]?=some _:=yL hi
    rw[hx,hy,Option.map_some,Option.map_some]
    have he:=h3.at_ hx hy
    have hl:=(hro.2 _ (List.mem_of_getElem? hy)).1
    unfold lastOf
    rw[he]
    unfold catR
    rw[List.getD_eq_getElem?_getD,List.getElem?_append_right (by omega),hl,Nat.sub_self]
    rfl
   ·rw[List.getElem?_eq_none (by omega),List.getElem?_eq_none hi];rfl
theorem rank_eq {rs:List RowD} (ho:okRows rs) (n:Int):rankX rs n=rrankX rs n:=by
 unfold rankX rrankX
 rcases hr:rightS rs n
 ·rfl
 obtain⟨rfl,hN,hok⟩:=rightS_rowsOK ho hr
 obtain⟨h1,h2⟩:=elimS_rel false hok
 rcases hT:(elimT false rs).2.2
 ·rw[h1,hT];rfl
 ·obtain⟨h3,h4⟩:=h2 hT
  rw[h1,hT,h4]
  rfl
theorem kern_eq {rs:List RowD} (ho:okRows rs) (n:Int):kernX rs n=rkernX rs n:=by
 unfold kernX rkernX
 rcases hr:rightS rs n
 ·rfl
 obtain⟨rfl,hN,hok⟩:=rightS_rowsOK ho hr
 obtain⟨h1,h2⟩:=elimS_rel true hok
 have hro:=elimR_ok true rs.length 0 rs 0 [] (by omega) (by omega) hok
 change RowsOK rs.length (elimT true rs).1 at hro
 have hfr:=(elimR_free_le true rs.length 0 rs 0 []).2
 change ∀ f∈(elimT true rs).2.1,f∈[]∨f<0+rs.length at hfr
 rcases hT:(elimT true rs).2.2
 ·rw[h1,hT];rfl
 ·obtain⟨h3,h4⟩:=h2 hT
  rw[h1,hT,h4]
  rcases hF:(elimT true rs).2.1 with _ | ⟨f,fs⟩
  ·rfl
  ·have hf:f<rs.length:=by
    rcases hfr f (by rw[hF];exact List.mem_cons_self) with h | h
    ·simp at h
    ·omega
   simp only[Bool.not_true,Bool.false_or,if_true,List.headD_cons]
   rw[if_neg (by simp),if_neg (by simp),Prod.mk.injEq]
   refine⟨?_,rfl⟩
   unfold kerP kerR
   apply List.map_congr_left
   intro k hk
   have hkN:=List.mem_range.1 hk
   have hlen:=h3.len
   have hrl:=hro.1
   have hx:(elimS true rs).1[k]?=some _:=yL (by omega)
   have hy:(elimT true rs).1[k]?=some _:=yL (by omega)
   rw[row_at hx,rowR_at hy,cat_cell (h3.at_ hx hy) (hro.2 _ (List.mem_of_getElem? hy)).1 hf]
end Go.Mini
namespace Go.Mini
open Go
set_option maxRecDepth 10000
set_option maxHeartbeats 4000000
theorem keepF_right {b:Bool} {v:Rat} (h:b=true→limR v) (h0:((keepF b v).2==0)=true):rightF (keepF b v).1=true:=by
 cases b
 ·simp [keepF] at h0
 ·exact rightF_enc (h rfl)
theorem mul_right' {a b:FRaw} (ha:rightF a=true) (hb:rightF b=true) (h0:((mulF a b).2==0)=true):rightF (mulF a b).1=true:=by
 obtain⟨x,hx,rfl⟩:=(rightF_iff _).1 ha
 obtain⟨y,hy,rfl⟩:=(rightF_iff _).1 hb
 rw[mulF_enc hx hy] at h0 ⊢
 exact keepF_right (fun h=>mul_lim h) h0
theorem add_right' {a b:FRaw} (ha:rightF a=true) (hb:rightF b=true) (h0:((addF a b).2==0)=true):rightF (addF a b).1=true:=by
 obtain⟨x,hx,rfl⟩:=(rightF_iff _).1 ha
 obtain⟨y,hy,rfl⟩:=(rightF_iff _).1 hb
 rw[addF_enc hx hy] at h0 ⊢
 exact keepF_right (fun h=>add_lim h) h0
theorem sumGo_right:∀ (al xs:List FRaw) (s:FRaw),rightF s=true→(∀ a∈al,rightF a=true)→(∀ a∈xs,rightF a=true)→∀ f,sumGo s al xs=some f→rightF f=true
 | [],xs,s,hs,_,_,f,hf=>by simp [sumGo] at hf;rw[←hf];exact hs
 | a::al,[],s,hs,_,_,f,hf=>by simp [sumGo] at hf;rw[←hf];exact hs
 | a::al,y::xs,s,hs,ha,hx,f,hf=>by
  rw[sumGo_step] at hf
  split at hf
  ·rename_i h
   rw[Bool.and_eq_true] at h
   have hm:=mul_right' (ha a List.mem_cons_self) (hx y List.mem_cons_self) h.1
   exact sumGo_right al xs _ (add_right' hs hm h.2) (fun b hb=>ha b (List.mem_cons_of_mem _ hb)) (fun b hb=>hx b (List.mem_cons_of_mem _ hb)) f hf
  ·cases hf
theorem cmp_same {a b:FRaw} (ha:rightF a=true) (hb:rightF b=true):(cmpF a b==0)=sameF a b:=by
 obtain⟨x,hx,rfl⟩:=(rightF_iff _).1 ha
 obtain⟨y,hy,rfl⟩:=(rightF_iff _).1 hb
 unfold sameF
 rw[cmpF_enc hx hy,Bool.eq_iff_iff,beq_iff_eq,decide_eq_true_eq,cmpQ_zero]
 exact⟨fun h=>by rw[h],encR_inj⟩
theorem right_zF:rightF zF=true:=by rw[←encR_zero];exact rightF_enc ⟨by decide +kernel,by decide +kernel⟩
theorem check_eq (rs:List RowD) (n:Int) (x:List FRaw):checkX rs n x=rcheckX rs n x:=by
 unfold checkX rcheckX
 rcases hr:rightS rs n
 ·rfl
 rcases hx:x.any badF
 ·have hxr:∀ f∈x,rightF f=true:=fun f hf=>by
   have:=List.any_eq_false.1 hx f hf
   unfold badF at this
   simpa using this
  have hall:rs.all (rowHolds x)=rs.all (holdsR x):=by
   have:∀ r∈rs,rowHolds x r=holdsR x r:=by
    intro r hrm
    unfold rightS at hr
    simp only[Bool.and_eq_true,Bool.not_eq_true'] at hr
    have hb:=List.any_eq_false.1 hr.2.2.2 r hrm
    unfold badRow at hb
    simp only[Bool.not_eq_true',Bool.not_eq_false,Bool.not_eq_true,Bool.and_eq_true,Bool.not_eq_false'] at hb
    have hA:∀ a∈r.1,rightF a=true:=fun a ha=>by
     have:=List.any_eq_false.1 hb.2.2 a ha
     unfold badF at this
     simpa using this
    unfold rowHolds holdsR
    rcases hs:sumGo zF r.1 x with _ | s
    ·rfl
    ·exact cmp_same (sumGo_right r.1 x zF right_zF hA hxr s hs) hb.2.1
   rw[Bool.eq_iff_iff,List.all_eq_true,List.all_eq_true]
   exact⟨fun h r hr=>by rw[←this r hr];exact h r hr,fun h r hr=>by rw[this r hr];exact h r hr⟩
  rw[hall]
 ·rfl
theorem few2_ok {f:FRaw} (h:fewF f 2=true):okF f:=by
 unfold fewF at h
 simp only[Bool.and_eq_true,decide_eq_true_eq] at h
 exact⟨by omega,by omega⟩
theorem few2_list {l:List FRaw} (h:fewFs l 5 2=true):okL l:=by
 unfold fewFs at h
 simp only[Bool.and_eq_true,decide_eq_true_eq,List.all_eq_true] at h
 exact⟨by omega,fun f hf=>few2_ok (h.2 f hf)⟩
theorem few2_rows {l:List RowD} (h:fewRows l 5 2=true):okRows l:=by
 unfold fewRows fewRow at h
 simp only[Bool.and_eq_true,decide_eq_true_eq,List.all_eq_true] at h
 exact⟨by omega,fun r hr=>⟨few2_list (h.2 r hr).1,few2_ok (h.2 r hr).2⟩⟩
theorem okL_vals {rows:List RowD} (h:∀ x∈rows,okRow x) (hl:rows.length≤1000000):okL (rows.map (·.2)):=by
 refine⟨by rw[yJ];exact hl,fun f hf=>?_⟩
 obtain⟨x,hx,rfl⟩:=List.mem_map.1 hf
 exact (h x hx).2
theorem okL_nil:okL []:=⟨by simp,by simp⟩
theorem rsolve_ok {rs:List RowD} (ho:okRows rs) (n:Int):okL (rsolveX rs n).1:=by
 unfold rsolveX
 split
 ·rename_i hr
  obtain⟨rfl,hN,hok⟩:=rightS_rowsOK ho hr
  have hro:=elimR_ok true rs.length 0 rs 0 [] (by omega) (by omega) hok
  change RowsOK rs.length (elimT true rs).1 at hro
  split
  ·split
   ·exact okL_nil
   ·exact okL_vals (fun x hx=>(hro.2 x hx).2) (by have:=hro.1;omega)
  ·exact okL_nil
 ·exact okL_nil
theorem rkern_ok {rs:List RowD} (ho:okRows rs) (n:Int):okL (rkernX rs n).1:=by
 unfold rkernX
 split
 ·rename_i hr
  obtain⟨rfl,hN,hok⟩:=rightS_rowsOK ho hr
  split
  ·exact okL_nil
  ·refine⟨by simp [kerR];omega,fun f hf=>?_⟩
   obtain⟨k,-,rfl⟩:=List.mem_map.1 hf
   split
   ·exact okF_sub _ _
   ·split
    ·exact⟨by simp [oneF],by simp [oneF]⟩
    ·exact⟨by simp [zF],by simp [zF]⟩
 ·exact okL_nil
noncomputable def F_wTells:List Data→Option PRes:=FF (α:=(List RowD) × Int × (List FRaw)) (fun (rs,n,x)=>([.sl (rs.map rowL),.int .i64 n,.sl (x.map fracL)]:List Data)) (fun (rs,n,x)=>some (.same (.bool true)))
theorem F_wTells_inj:∀ a b:(List RowD) × Int × (List FRaw),(fun (rs,n,x)=>([.sl (rs.map rowL),.int .i64 n,.sl (x.map fracL)]:List Data)) a=(fun (rs,n,x)=>([.sl (rs.map rowL),.int .i64 n,.sl (x.map fracL)]:List Data)) b→a=b:=by
  rintro⟨rs1,n1,x1⟩ ⟨rs2,n2,x2⟩ h
  simp only[yM,Data.sl.injEq,Data.int.injEq] at h;exact Prod.ext (map_inj rowL_inj _ _ h.1) (Prod.ext h.2.1.2 (map_inj fracL_inj _ _ h.2.2.1))
@[go_sem] theorem F_wTells_eq (rs:List RowD) (n:Int) (x:List FRaw):F_wTells [.sl (rs.map rowL),.int .i64 n,.sl (x.map fracL)]=some (.same (.bool true)):=FF_eq F_wTells_inj (rs,n,x)
theorem w_wTells (T:Tab) (h_wsmall:T id_law06_small=mkE F_wsmall) (h_hFew:T id_ref06_Few=mkE F_hFew) (h_hFewFracs:T id_ref06_FewFracs=mkE F_hFewFracs) (h_linRight:T id_linear_Right=mkE F_linRight) (h_linSolve:T id_linear_Solve=mkE F_linSolve) (h_linKern:T id_linear_Kernel=mkE F_linKern) (h_linRank:T id_linear_Rank=mkE F_linRank) (h_linCheck:T id_linear_Check=mkE F_linCheck) (h_eRight:T id_ref06_Right=mkE F_eRight) (h_esolve:T id_ref06_Solve=mkE F_esolve) (h_ekern:T id_ref06_Kernel=mkE F_ekern) (h_erank:T id_ref06_Rank=mkE F_erank) (h_echeck:T id_ref06_Check=mkE F_echeck) (h_hSame:T id_ref06_Same=mkE F_hSame) (rs:List RowD) (n:Int) (x:List FRaw) :
  wp T mf_law06_LinearTells.body (endS mf_law06_LinearTells.res (.same (.bool true))) ⟨initTm [.dat (.sl (rs.map rowL)),.dat (.int .i64 n),.dat (.sl (x.map fracL))],emp⟩:=by
 refine wp_start ?_
 simp only[mf_law06_LinearTells]
 have sm:=F_wsmall_eq
 have g1:=F_hFew_eq rs 5 2 (by omega)
 have g2:=F_hFewFracs_eq x 5 2 (by omega)
 rcases hf:fewRows rs 5 2
 ·rw[hf] at g1
  simp only[go_sem,reduceIte,yA,yB,yC,yD,yE,yH,reduceCtorEq,yF,yG,yI,h_wsmall,h_hFew,h_hFewFracs,h_linRight,h_linSolve,h_linKern,h_linRank,h_linCheck,h_eRight,h_esolve,h_ekern,h_erank,h_echeck,h_hSame,sm,g1,Bool.not_false]
 rw[hf] at g1
 rcases hx:fewFs x 5 2
 ·rw[hx] at g2
  simp only[go_sem,reduceIte,yA,yB,yC,yD,yE,yH,reduceCtorEq,yF,yG,yI,h_wsmall,h_hFew,h_hFewFracs,h_linRight,h_linSolve,h_linKern,h_linRank,h_linCheck,h_eRight,h_esolve,h_ekern,h_erank,h_echeck,h_hSame,sm,g1,g2,Bool.not_false,Bool.not_true]
 rw[hx] at g2
 have okr:=few2_rows hf
 have okx:=few2_list hx
 have a1:=F_linSolve_eq rs n okr
 have a2:=F_esolve_eq rs n okr
 have a3:=F_linKern_eq rs n okr
 have a4:=F_ekern_eq rs n okr
 have a5:=F_linRank_eq rs n okr
 have a6:=F_erank_eq rs n okr
 have a7:=F_linRight_eq rs n okr
 have a8:=F_eRight_eq rs n okr
 have a9:=F_linCheck_eq rs n x ⟨okr,okx⟩
 have a10:=F_echeck_eq rs n x ⟨okr,okx⟩
 have s1:=F_hSame_eq (rsolveX rs n).1 (rsolveX rs n).1 ⟨rsolve_ok okr n,rsolve_ok okr n⟩
 have s2:=F_hSame_eq (rkernX rs n).1 (rkernX rs n).1 ⟨rkern_ok okr n,rkern_ok okr n⟩
 rw[show sameFs (rsolveX rs n).1 (rsolveX rs n).1=true from decide_eq_true rfl] at s1
 rw[show sameFs (rkernX rs n).1 (rkernX rs n).1=true from decide_eq_true rfl] at s2
 rw[solve_eq okr n] at a1
 rw[kern_eq okr n] at a3
 rw[rank_eq okr n] at a5
 rw[check_eq rs n x] at a9
 generalize rsolveX rs n=P1 at *
 generalize rkernX rs n=P2 at *
 generalize rrankX rs n=P3 at *
 generalize rightS rs n=P4 at *
 generalize rcheckX rs n x=P5 at *
 obtain⟨u1,u2⟩:=P1
 obtain⟨v1,v2⟩:=P2
 obtain⟨w1,w2⟩:=P3
 dsimp only at a1 a2 a3 a4 a5 a6 s1 s2
 simp only[go_sem,reduceIte,yA,yB,yC,yD,yE,yH,reduceCtorEq,yF,yG,yI,h_wsmall,h_hFew,h_hFewFracs,h_linRight,h_linSolve,h_linKern,h_linRank,h_linCheck,h_eRight,h_esolve,h_ekern,h_erank,h_echeck,h_hSame,sm,g1,g2,a1,a2,a3,a4,a5,a6,a7,a8,a9,a10,s1,s2,beq_self_eq_true,Bool.not_true]
end Go.Mini
namespace Go.Mini
open Go Go.Proofs
set_option maxRecDepth 100000
theorem mixed:Tryz.prog.follows .mixedOrders=true:=by kernel_rfl
theorem tr_trim:trFunc Tryz.prog 177000 [] Tryz.f100=some { mf_big_trim with body:=erase mf_big_trim.body }:=by kernel_rfl
theorem nm_trim : (Tryz.f100.name == "runtime.NumGoroutine") = false := by kernel_rfl
theorem ps_trim:PSpec Tryz.prog id_big_trim F_trim:=pspec_of (mkTE_ok (PTl_ok (l:=[]) PTl_nil) (ETl_ok (l:=[]) ETl_nil)) mixed Tryz.func100 nm_trim tr_trim fun ds r h=>by
 obtain⟨x0,hds,hr⟩:=FF_inv h
 clear h
 subst hds
 obtain⟨hc,rfl⟩:=onlyIf_inv hr
 exact⟨Nat.le_of_ble_eq_true rfl,w_trim _  x0 hc⟩
theorem es_trim:ESpec Tryz.prog id_big_trim (mkG G_trim):=RSpec.toE (rspec_of (mkTE_ok (PTl_ok (l:=[]) PTl_nil) (ETl_ok (l:=[]) ETl_nil)) mixed Tryz.func100 nm_trim tr_trim fun args mem x h=>by
 obtain⟨a,⟨rfl,hm,hl⟩,rfl⟩:=GG_inv h
 exact⟨Nat.le_of_ble_eq_true rfl,w_trimG _ a.l a.k a.g mem hm hl⟩)
theorem tr_isNaN:trFunc Tryz.prog 184000 [] Tryz.f105=some { mf_cmp_isNaN_int with body:=erase mf_cmp_isNaN_int.body }:=by kernel_rfl
theorem nm_isNaN : (Tryz.f105.name == "runtime.NumGoroutine") = false := by kernel_rfl
theorem ps_isNaN:PSpec Tryz.prog id_cmp_isNaN_int F_isNaN:=pspec_of (mkTE_ok (PTl_ok (l:=[]) PTl_nil) (ETl_ok (l:=[]) ETl_nil)) mixed Tryz.func105 nm_isNaN tr_isNaN fun ds r h=>by
 obtain⟨x0,hds,hr⟩:=FF_inv h
 clear h
 subst hds
 obtain rfl:=Option.some.inj hr
 exact⟨Nat.le_of_ble_eq_true rfl,w_isNaN _  x0⟩
theorem tr_cmpI:trFunc Tryz.prog 174000 [] Tryz.f95=some { mf_cmp_Compare_int with body:=erase mf_cmp_Compare_int.body }:=by kernel_rfl
theorem nm_cmpI : (Tryz.f95.name == "runtime.NumGoroutine") = false := by kernel_rfl
theorem ps_cmpI:PSpec Tryz.prog id_cmp_Compare_int F_cmpI:=pspec_of (mkTE_ok (PTl_ok (l:=[(id_cmp_isNaN_int,F_isNaN)]) (PTl_cons ps_isNaN PTl_nil)) (ETl_ok (l:=[]) ETl_nil)) mixed Tryz.func95 nm_cmpI tr_cmpI fun ds r h=>by
 obtain⟨⟨x0,x1⟩,hds,hr⟩:=FF_inv h
 clear h
 subst hds
 obtain rfl:=Option.some.inj hr
 exact⟨Nat.le_of_ble_eq_true rfl,w_cmpI _ (mkTE_F rfl rfl) x0 x1⟩
theorem tr_orI:trFunc Tryz.prog 179000 [] Tryz.f104=some { mf_cmp_Or_int with body:=erase mf_cmp_Or_int.body }:=by kernel_rfl
theorem nm_orI : (Tryz.f104.name == "runtime.NumGoroutine") = false := by kernel_rfl
theorem ps_orI:PSpec Tryz.prog id_cmp_Or_int F_orI:=pspec_of (mkTE_ok (PTl_ok (l:=[]) PTl_nil) (ETl_ok (l:=[]) ETl_nil)) mixed Tryz.func104 nm_orI tr_orI fun ds r h=>by
 obtain⟨x0,hds,hr⟩:=FF_inv h
 clear h
 subst hds
 obtain⟨hc,rfl⟩:=onlyIf_inv hr
 exact⟨Nat.le_of_ble_eq_true rfl,w_orI _  x0 hc⟩
theorem tr_clone:trFunc Tryz.prog 156000 [5] Tryz.f82=some { mf_slices_Clone_int with body:=erase mf_slices_Clone_int.body }:=by kernel_rfl
theorem nm_clone : (Tryz.f82.name == "runtime.NumGoroutine") = false := by kernel_rfl
theorem ps_clone:PSpec Tryz.prog id_slices_Clone_int F_clone:=pspec_of (mkTE_ok (PTl_ok (l:=[]) PTl_nil) (ETl_ok (l:=[]) ETl_nil)) mixed Tryz.func82 nm_clone tr_clone fun ds r h=>by
 obtain⟨x0,hds,hr⟩:=FF_inv h
 clear h
 subst hds
 obtain⟨hc,rfl⟩:=onlyIf_inv hr
 exact⟨Nat.le_of_ble_eq_true rfl,w_clone _  x0 hc⟩
theorem tr_bigRight:trFunc Tryz.prog 136000 [] Tryz.f56=some { mf_big_Right with body:=erase mf_big_Right.body }:=by kernel_rfl
theorem nm_bigRight : (Tryz.f56.name == "runtime.NumGoroutine") = false := by kernel_rfl
theorem ps_bigRight:PSpec Tryz.prog id_big_Right F_bigRight:=pspec_of (mkTE_ok (PTl_ok (l:=[]) PTl_nil) (ETl_ok (l:=[]) ETl_nil)) mixed Tryz.func56 nm_bigRight tr_bigRight fun ds r h=>by
 obtain⟨⟨x0,x1⟩,hds,hr⟩:=FF_inv h
 clear h
 subst hds
 obtain⟨hc,rfl⟩:=onlyIf_inv hr
 exact⟨Nat.le_of_ble_eq_true rfl,w_bigRight _  x0 x1 hc⟩
theorem tr_signed:trFunc Tryz.prog 158000 [] Tryz.f79=some { mf_big_signed with body:=erase mf_big_signed.body }:=by kernel_rfl
theorem nm_signed : (Tryz.f79.name == "runtime.NumGoroutine") = false := by kernel_rfl
theorem ps_signed:PSpec Tryz.prog id_big_signed F_signed:=pspec_of (mkTE_ok (PTl_ok (l:=[(id_big_trim,F_trim)]) (PTl_cons ps_trim PTl_nil)) (ETl_ok (l:=[(id_big_trim,mkG G_trim)]) (ETl_cons es_trim ETl_nil))) mixed Tryz.func79 nm_signed tr_signed fun ds r h=>by
 obtain⟨⟨x0,x1⟩,hds,hr⟩:=FF_inv h
 clear h
 subst hds
 obtain⟨hc,rfl⟩:=onlyIf_inv hr
 exact⟨Nat.le_of_ble_eq_true rfl,w_signed _ (mkTE_FG rfl rfl) x0 x1 hc⟩
theorem tr_compare:trFunc Tryz.prog 175000 [] Tryz.f96=some { mf_big_compare with body:=erase mf_big_compare.body }:=by kernel_rfl
theorem nm_compare : (Tryz.f96.name == "runtime.NumGoroutine") = false := by kernel_rfl
theorem ps_compare:PSpec Tryz.prog id_big_compare F_compare:=pspec_of (mkTE_ok (PTl_ok (l:=[(id_cmp_Compare_int,F_cmpI)]) (PTl_cons ps_cmpI PTl_nil)) (ETl_ok (l:=[]) ETl_nil)) mixed Tryz.func96 nm_compare tr_compare fun ds r h=>by
 obtain⟨⟨x0,x1⟩,hds,hr⟩:=FF_inv h
 clear h
 subst hds
 obtain⟨hc,rfl⟩:=onlyIf_inv hr
 exact⟨Nat.le_of_ble_eq_true rfl,w_compare _ (mkTE_F rfl rfl) x0 x1 hc⟩
theorem tr_add:trFunc Tryz.prog 172000 [] Tryz.f93=some { mf_big_add with body:=erase mf_big_add.body }:=by kernel_rfl
theorem nm_add : (Tryz.f93.name == "runtime.NumGoroutine") = false := by kernel_rfl
theorem ps_add:PSpec Tryz.prog id_big_add F_add:=pspec_of (mkTE_ok (PTl_ok (l:=[(id_big_trim,F_trim)]) (PTl_cons ps_trim PTl_nil)) (ETl_ok (l:=[(id_big_trim,mkG G_trim)]) (ETl_cons es_trim ETl_nil))) mixed Tryz.func93 nm_add tr_add fun ds r h=>by
 obtain⟨⟨x0,x1⟩,hds,hr⟩:=FF_inv h
 clear h
 subst hds
 obtain⟨hc,rfl⟩:=onlyIf_inv hr
 exact⟨Nat.le_of_ble_eq_true rfl,w_add _ (mkTE_FG rfl rfl) x0 x1 hc⟩
theorem tr_sub:trFunc Tryz.prog 173000 [10] Tryz.f94=some { mf_big_sub with body:=erase mf_big_sub.body }:=by kernel_rfl
theorem nm_sub : (Tryz.f94.name == "runtime.NumGoroutine") = false := by kernel_rfl
theorem ps_sub:PSpec Tryz.prog id_big_sub F_sub:=pspec_of (mkTE_ok (PTl_ok (l:=[(id_slices_Clone_int,F_clone),(id_big_trim,F_trim)]) (PTl_cons ps_clone (PTl_cons ps_trim PTl_nil))) (ETl_ok (l:=[(id_big_trim,mkG G_trim)]) (ETl_cons es_trim ETl_nil))) mixed Tryz.func94 nm_sub tr_sub fun ds r h=>by
 obtain⟨⟨x0,x1⟩,hds,hr⟩:=FF_inv h
 clear h
 subst hds
 obtain⟨hc,rfl⟩:=onlyIf_inv hr
 exact⟨Nat.le_of_ble_eq_true rfl,w_sub _ (mkTE_F rfl rfl) (mkTE_FG rfl rfl) x0 x1 hc⟩
theorem tr_mul:trFunc Tryz.prog 161000 [] Tryz.f91=some { mf_big_mul with body:=erase mf_big_mul.body }:=by kernel_rfl
theorem nm_mul : (Tryz.f91.name == "runtime.NumGoroutine") = false := by kernel_rfl
theorem ps_mul:PSpec Tryz.prog id_big_mul F_mul:=pspec_of (mkTE_ok (PTl_ok (l:=[(id_big_trim,F_trim)]) (PTl_cons ps_trim PTl_nil)) (ETl_ok (l:=[(id_big_trim,mkG G_trim)]) (ETl_cons es_trim ETl_nil))) mixed Tryz.func91 nm_mul tr_mul fun ds r h=>by
 obtain⟨⟨x0,x1⟩,hds,hr⟩:=FF_inv h
 clear h
 subst hds
 obtain⟨hc,rfl⟩:=onlyIf_inv hr
 exact⟨Nat.le_of_ble_eq_true rfl,w_mul _ (mkTE_FG rfl rfl) x0 x1 hc⟩
theorem tr_short:trFunc Tryz.prog 176000 [] Tryz.f102=some { mf_big_short with body:=erase mf_big_short.body }:=by kernel_rfl
theorem nm_short : (Tryz.f102.name == "runtime.NumGoroutine") = false := by kernel_rfl
theorem ps_short:PSpec Tryz.prog id_big_short F_short:=pspec_of (mkTE_ok (PTl_ok (l:=[(id_big_trim,F_trim)]) (PTl_cons ps_trim PTl_nil)) (ETl_ok (l:=[(id_big_trim,mkG G_trim)]) (ETl_cons es_trim ETl_nil))) mixed Tryz.func102 nm_short tr_short fun ds r h=>by
 obtain⟨⟨x0,x1⟩,hds,hr⟩:=FF_inv h
 clear h
 subst hds
 obtain⟨hc,rfl⟩:=onlyIf_inv hr
 exact⟨Nat.le_of_ble_eq_true rfl,w_short _ (mkTE_FG rfl rfl) x0 x1 hc⟩
theorem tr_settle:trFunc Tryz.prog 178000 [] Tryz.f103=some { mf_big_settle with body:=erase mf_big_settle.body }:=by kernel_rfl
theorem nm_settle : (Tryz.f103.name == "runtime.NumGoroutine") = false := by kernel_rfl
theorem es_settle:ESpec Tryz.prog id_big_settle (mkG G_settle):=RSpec.toE (rspec_of (mkTE_ok (PTl_ok (l:=[]) PTl_nil) (ETl_ok (l:=[]) ETl_nil)) mixed Tryz.func103 nm_settle tr_settle fun args mem x h=>by
 obtain⟨a,⟨rfl,hc⟩,rfl⟩:=GG_inv h
 exact⟨Nat.le_of_ble_eq_true rfl,w_settle _ a mem hc⟩)
theorem tr_div:trFunc Tryz.prog 157000 [54] Tryz.f86=some { mf_big_div with body:=erase mf_big_div.body }:=by kernel_rfl
theorem nm_div : (Tryz.f86.name == "runtime.NumGoroutine") = false := by kernel_rfl
theorem ps_div:PSpec Tryz.prog id_big_div F_div:=pspec_of (mkTE_ok (PTl_ok (l:=[(id_big_compare,F_compare),(id_slices_Clone_int,F_clone),(id_big_short,F_short),(id_big_trim,F_trim),(id_big_mul,F_mul)]) (PTl_cons ps_compare (PTl_cons ps_clone (PTl_cons ps_short (PTl_cons ps_trim (PTl_cons ps_mul PTl_nil)))))) (ETl_ok (l:=[(id_big_trim,mkG G_trim),(id_big_settle,mkG G_settle)]) (ETl_cons es_trim (ETl_cons es_settle ETl_nil)))) mixed Tryz.func86 nm_div tr_div fun ds r h=>by
 obtain⟨⟨x0,x1⟩,hds,hr⟩:=FF_inv h
 clear h
 subst hds
 obtain⟨hc,rfl⟩:=onlyIf_inv hr
 exact⟨Nat.le_of_ble_eq_true rfl,w_div _ (mkTE_F rfl rfl) (mkTE_F rfl rfl) (mkTE_F rfl rfl) (mkTE_FG rfl rfl) (mkTE_F rfl rfl) (mkTE_E rfl rfl) x0 x1 hc⟩
theorem tr_checked:trFunc Tryz.prog 155000 [] Tryz.f85=some { mf_big_checked with body:=erase mf_big_checked.body }:=by kernel_rfl
theorem nm_checked : (Tryz.f85.name == "runtime.NumGoroutine") = false := by kernel_rfl
theorem ps_checked:PSpec Tryz.prog id_big_checked F_checked:=pspec_of (mkTE_ok (PTl_ok (l:=[]) PTl_nil) (ETl_ok (l:=[]) ETl_nil)) mixed Tryz.func85 nm_checked tr_checked fun ds r h=>by
 obtain⟨⟨x0,x1,x2⟩,hds,hr⟩:=FF_inv h
 clear h
 subst hds
 obtain rfl:=Option.some.inj hr
 exact⟨Nat.le_of_ble_eq_true rfl,w_checked _  x0 x1 x2⟩
theorem tr_Neg:trFunc Tryz.prog 152000 [] Tryz.f52=some { mf_big_Neg with body:=erase mf_big_Neg.body }:=by kernel_rfl
theorem nm_Neg : (Tryz.f52.name == "runtime.NumGoroutine") = false := by kernel_rfl
theorem ps_Neg:PSpec Tryz.prog id_big_Neg F_Neg:=pspec_of (mkTE_ok (PTl_ok (l:=[(id_big_Right,F_bigRight),(id_slices_Clone_int,F_clone),(id_big_signed,F_signed)]) (PTl_cons ps_bigRight (PTl_cons ps_clone (PTl_cons ps_signed PTl_nil)))) (ETl_ok (l:=[]) ETl_nil)) mixed Tryz.func52 nm_Neg tr_Neg fun ds r h=>by
 obtain⟨⟨x0,x1⟩,hds,hr⟩:=FF_inv h
 clear h
 subst hds
 obtain⟨hc,rfl⟩:=onlyIf_inv hr
 exact⟨Nat.le_of_ble_eq_true rfl,w_Neg _ (mkTE_F rfl rfl) (mkTE_F rfl rfl) (mkTE_F rfl rfl) x0 x1 hc⟩
theorem tr_Mul:trFunc Tryz.prog 140000 [] Tryz.f65=some { mf_big_Mul with body:=erase mf_big_Mul.body }:=by kernel_rfl
theorem nm_Mul : (Tryz.f65.name == "runtime.NumGoroutine") = false := by kernel_rfl
theorem ps_Mul:PSpec Tryz.prog id_big_Mul F_Mul:=pspec_of (mkTE_ok (PTl_ok (l:=[(id_big_Right,F_bigRight),(id_big_mul,F_mul),(id_big_signed,F_signed),(id_big_checked,F_checked)]) (PTl_cons ps_bigRight (PTl_cons ps_mul (PTl_cons ps_signed (PTl_cons ps_checked PTl_nil))))) (ETl_ok (l:=[]) ETl_nil)) mixed Tryz.func65 nm_Mul tr_Mul fun ds r h=>by
 obtain⟨⟨x0,x1,x2,x3⟩,hds,hr⟩:=FF_inv h
 clear h
 subst hds
 obtain⟨hc,rfl⟩:=onlyIf_inv hr
 exact⟨Nat.le_of_ble_eq_true rfl,w_Mul _ (mkTE_F rfl rfl) (mkTE_F rfl rfl) (mkTE_F rfl rfl) (mkTE_F rfl rfl) x0 x1 x2 x3 hc⟩
theorem tr_Add:trFunc Tryz.prog 160000 [] Tryz.f92=some { mf_big_Add with body:=erase mf_big_Add.body }:=by kernel_rfl
theorem nm_Add : (Tryz.f92.name == "runtime.NumGoroutine") = false := by kernel_rfl
theorem ps_Add:PSpec Tryz.prog id_big_Add F_Add:=pspec_of (mkTE_ok (PTl_ok (l:=[(id_big_Right,F_bigRight),(id_cmp_Or_int,F_orI),(id_big_add,F_add),(id_big_sub,F_sub),(id_big_compare,F_compare),(id_big_signed,F_signed),(id_big_checked,F_checked)]) (PTl_cons ps_bigRight (PTl_cons ps_orI (PTl_cons ps_add (PTl_cons ps_sub (PTl_cons ps_compare (PTl_cons ps_signed (PTl_cons ps_checked PTl_nil)))))))) (ETl_ok (l:=[]) ETl_nil)) mixed Tryz.func92 nm_Add tr_Add fun ds r h=>by
 obtain⟨⟨x0,x1,x2,x3⟩,hds,hr⟩:=FF_inv h
 clear h
 subst hds
 obtain⟨hc,rfl⟩:=onlyIf_inv hr
 exact⟨Nat.le_of_ble_eq_true rfl,w_Add _ (mkTE_F rfl rfl) (mkTE_F rfl rfl) (mkTE_F rfl rfl) (mkTE_F rfl rfl) (mkTE_F rfl rfl) (mkTE_F rfl rfl) (mkTE_F rfl rfl) x0 x1 x2 x3 hc⟩
theorem tr_Compare:trFunc Tryz.prog 154000 [] Tryz.f69=some { mf_big_Compare with body:=erase mf_big_Compare.body }:=by kernel_rfl
theorem nm_Compare : (Tryz.f69.name == "runtime.NumGoroutine") = false := by kernel_rfl
theorem ps_Compare:PSpec Tryz.prog id_big_Compare F_Compare:=pspec_of (mkTE_ok (PTl_ok (l:=[(id_big_Right,F_bigRight),(id_cmp_Compare_int,F_cmpI),(id_big_compare,F_compare)]) (PTl_cons ps_bigRight (PTl_cons ps_cmpI (PTl_cons ps_compare PTl_nil)))) (ETl_ok (l:=[]) ETl_nil)) mixed Tryz.func69 nm_Compare tr_Compare fun ds r h=>by
 obtain⟨⟨x0,x1,x2,x3⟩,hds,hr⟩:=FF_inv h
 clear h
 subst hds
 obtain⟨hc,rfl⟩:=onlyIf_inv hr
 exact⟨Nat.le_of_ble_eq_true rfl,w_Compare _ (mkTE_F rfl rfl) (mkTE_F rfl rfl) (mkTE_F rfl rfl) x0 x1 x2 x3 hc⟩
theorem tr_Gcd:trFunc Tryz.prog 137000 [] Tryz.f57=some { mf_big_Gcd with body:=erase mf_big_Gcd.body }:=by kernel_rfl
theorem nm_Gcd : (Tryz.f57.name == "runtime.NumGoroutine") = false := by kernel_rfl
theorem ps_Gcd:PSpec Tryz.prog id_big_Gcd F_Gcd:=pspec_of (mkTE_ok (PTl_ok (l:=[(id_big_Right,F_bigRight),(id_slices_Clone_int,F_clone),(id_big_div,F_div),(id_big_signed,F_signed),(id_big_checked,F_checked)]) (PTl_cons ps_bigRight (PTl_cons ps_clone (PTl_cons ps_div (PTl_cons ps_signed (PTl_cons ps_checked PTl_nil)))))) (ETl_ok (l:=[]) ETl_nil)) mixed Tryz.func57 nm_Gcd tr_Gcd fun ds r h=>by
 obtain⟨⟨x0,x1,x2,x3⟩,hds,hr⟩:=FF_inv h
 clear h
 subst hds
 obtain⟨hc,rfl⟩:=onlyIf_inv hr
 exact⟨Nat.le_of_ble_eq_true rfl,w_Gcd _ (mkTE_F rfl rfl) (mkTE_F rfl rfl) (mkTE_F rfl rfl) (mkTE_F rfl rfl) (mkTE_F rfl rfl) x0 x1 x2 x3 hc⟩
theorem tr_Div:trFunc Tryz.prog 153000 [] Tryz.f68=some { mf_big_Div with body:=erase mf_big_Div.body }:=by kernel_rfl
theorem nm_Div : (Tryz.f68.name == "runtime.NumGoroutine") = false := by kernel_rfl
theorem ps_Div:PSpec Tryz.prog id_big_Div F_Div:=pspec_of (mkTE_ok (PTl_ok (l:=[(id_big_Right,F_bigRight),(id_big_div,F_div),(id_big_add,F_add),(id_big_sub,F_sub),(id_big_signed,F_signed)]) (PTl_cons ps_bigRight (PTl_cons ps_div (PTl_cons ps_add (PTl_cons ps_sub (PTl_cons ps_signed PTl_nil)))))) (ETl_ok (l:=[]) ETl_nil)) mixed Tryz.func68 nm_Div tr_Div fun ds r h=>by
 obtain⟨⟨x0,x1,x2,x3⟩,hds,hr⟩:=FF_inv h
 clear h
 subst hds
 obtain⟨hc,rfl⟩:=onlyIf_inv hr
 exact⟨Nat.le_of_ble_eq_true rfl,w_Div _ (mkTE_F rfl rfl) (mkTE_F rfl rfl) (mkTE_F rfl rfl) (mkTE_F rfl rfl) (mkTE_F rfl rfl) x0 x1 x2 x3 hc⟩
theorem tr_bigOf:trFunc Tryz.prog 150000 [] Tryz.f50=some { mf_big_Of with body:=erase mf_big_Of.body }:=by kernel_rfl
theorem nm_bigOf : (Tryz.f50.name == "runtime.NumGoroutine") = false := by kernel_rfl
theorem ps_bigOf:PSpec Tryz.prog id_big_Of F_bigOf:=pspec_of (mkTE_ok (PTl_ok (l:=[(id_big_signed,F_signed)]) (PTl_cons ps_signed PTl_nil)) (ETl_ok (l:=[]) ETl_nil)) mixed Tryz.func50 nm_bigOf tr_bigOf fun ds r h=>by
 obtain⟨x0,hds,hr⟩:=FF_inv h
 clear h
 subst hds
 obtain⟨hc,rfl⟩:=onlyIf_inv hr
 exact⟨Nat.le_of_ble_eq_true rfl,w_bigOf _ (mkTE_F rfl rfl) x0 hc⟩
theorem tr_bigInt:trFunc Tryz.prog 159000 [] Tryz.f87=some { mf_big_Int with body:=erase mf_big_Int.body }:=by kernel_rfl
theorem nm_bigInt : (Tryz.f87.name == "runtime.NumGoroutine") = false := by kernel_rfl
theorem ps_bigInt:PSpec Tryz.prog id_big_Int F_bigInt:=pspec_of (mkTE_ok (PTl_ok (l:=[(id_big_Right,F_bigRight)]) (PTl_cons ps_bigRight PTl_nil)) (ETl_ok (l:=[]) ETl_nil)) mixed Tryz.func87 nm_bigInt tr_bigInt fun ds r h=>by
 obtain⟨⟨x0,x1⟩,hds,hr⟩:=FF_inv h
 clear h
 subst hds
 obtain⟨hc,rfl⟩:=onlyIf_inv hr
 exact⟨Nat.le_of_ble_eq_true rfl,w_bigInt _ (mkTE_F rfl rfl) x0 x1 hc⟩
theorem tr_fone:trFunc Tryz.prog 138000 [] Tryz.f58=some { mf_frac_one with body:=erase mf_frac_one.body }:=by kernel_rfl
theorem nm_fone : (Tryz.f58.name == "runtime.NumGoroutine") = false := by kernel_rfl
theorem ps_fone:PSpec Tryz.prog id_frac_one F_fone:=pspec_of (mkTE_ok (PTl_ok (l:=[(id_big_Int,F_bigInt)]) (PTl_cons ps_bigInt PTl_nil)) (ETl_ok (l:=[]) ETl_nil)) mixed Tryz.func58 nm_fone tr_fone fun ds r h=>by
 obtain⟨⟨x0,x1⟩,hds,hr⟩:=FF_inv h
 clear h
 subst hds
 obtain⟨hc,rfl⟩:=onlyIf_inv hr
 exact⟨Nat.le_of_ble_eq_true rfl,w_fone _ (mkTE_F rfl rfl) x0 x1 hc⟩
theorem tr_fRight:trFunc Tryz.prog 116000 [] Tryz.f29=some { mf_frac_Right with body:=erase mf_frac_Right.body }:=by kernel_rfl
theorem nm_fRight : (Tryz.f29.name == "runtime.NumGoroutine") = false := by kernel_rfl
theorem ps_fRight:PSpec Tryz.prog id_frac_Right F_fRight:=pspec_of (mkTE_ok (PTl_ok (l:=[(id_big_Right,F_bigRight),(id_big_Gcd,F_Gcd),(id_frac_one,F_fone)]) (PTl_cons ps_bigRight (PTl_cons ps_Gcd (PTl_cons ps_fone PTl_nil)))) (ETl_ok (l:=[]) ETl_nil)) mixed Tryz.func29 nm_fRight tr_fRight fun ds r h=>by
 obtain⟨⟨x0,x1,x2,x3⟩,hds,hr⟩:=FF_inv h
 clear h
 subst hds
 obtain⟨hc,rfl⟩:=onlyIf_inv hr
 exact⟨Nat.le_of_ble_eq_true rfl,w_fRight _ (mkTE_F rfl rfl) (mkTE_F rfl rfl) (mkTE_F rfl rfl) x0 x1 x2 x3 hc⟩
theorem tr_fNew:trFunc Tryz.prog 149000 [] Tryz.f49=some { mf_frac_New with body:=erase mf_frac_New.body }:=by kernel_rfl
theorem nm_fNew : (Tryz.f49.name == "runtime.NumGoroutine") = false := by kernel_rfl
theorem ps_fNew:PSpec Tryz.prog id_frac_New F_fNew:=pspec_of (mkTE_ok (PTl_ok (l:=[(id_big_Right,F_bigRight),(id_big_Neg,F_Neg),(id_big_Gcd,F_Gcd),(id_big_Div,F_Div)]) (PTl_cons ps_bigRight (PTl_cons ps_Neg (PTl_cons ps_Gcd (PTl_cons ps_Div PTl_nil))))) (ETl_ok (l:=[]) ETl_nil)) mixed Tryz.func49 nm_fNew tr_fNew fun ds r h=>by
 obtain⟨⟨x0,x1,x2,x3⟩,hds,hr⟩:=FF_inv h
 clear h
 subst hds
 obtain⟨hc,rfl⟩:=onlyIf_inv hr
 exact⟨Nat.le_of_ble_eq_true rfl,w_fNew _ (mkTE_F rfl rfl) (mkTE_F rfl rfl) (mkTE_F rfl rfl) (mkTE_F rfl rfl) x0 x1 x2 x3 hc⟩
theorem tr_fOf:trFunc Tryz.prog 130000 [] Tryz.f24=some { mf_frac_Of with body:=erase mf_frac_Of.body }:=by kernel_rfl
theorem nm_fOf : (Tryz.f24.name == "runtime.NumGoroutine") = false := by kernel_rfl
theorem ps_fOf:PSpec Tryz.prog id_frac_Of F_fOf:=pspec_of (mkTE_ok (PTl_ok (l:=[(id_big_Of,F_bigOf),(id_frac_New,F_fNew)]) (PTl_cons ps_bigOf (PTl_cons ps_fNew PTl_nil))) (ETl_ok (l:=[]) ETl_nil)) mixed Tryz.func24 nm_fOf tr_fOf fun ds r h=>by
 obtain⟨⟨x0,x1⟩,hds,hr⟩:=FF_inv h
 clear h
 subst hds
 obtain⟨hc,rfl⟩:=onlyIf_inv hr
 exact⟨Nat.le_of_ble_eq_true rfl,w_fOf _ (mkTE_F rfl rfl) (mkTE_F rfl rfl) x0 x1 hc⟩
theorem tr_fsum:trFunc Tryz.prog 139000 [] Tryz.f67=some { mf_frac_sum with body:=erase mf_frac_sum.body }:=by kernel_rfl
theorem nm_fsum : (Tryz.f67.name == "runtime.NumGoroutine") = false := by kernel_rfl
theorem ps_fsum:PSpec Tryz.prog id_frac_sum F_fsum:=pspec_of (mkTE_ok (PTl_ok (l:=[(id_big_Mul,F_Mul),(id_big_Add,F_Add)]) (PTl_cons ps_Mul (PTl_cons ps_Add PTl_nil))) (ETl_ok (l:=[]) ETl_nil)) mixed Tryz.func67 nm_fsum tr_fsum fun ds r h=>by
 obtain⟨⟨x0,x1,x2,x3,x4,x5,x6,x7⟩,hds,hr⟩:=FF_inv h
 clear h
 subst hds
 obtain⟨hc,rfl⟩:=onlyIf_inv hr
 exact⟨Nat.le_of_ble_eq_true rfl,w_fsum _ (mkTE_F rfl rfl) (mkTE_F rfl rfl) x0 x1 x2 x3 x4 x5 x6 x7 hc⟩
theorem tr_fquot:trFunc Tryz.prog 141000 [] Tryz.f66=some { mf_frac_quotient with body:=erase mf_frac_quotient.body }:=by kernel_rfl
theorem nm_fquot : (Tryz.f66.name == "runtime.NumGoroutine") = false := by kernel_rfl
theorem ps_fquot:PSpec Tryz.prog id_frac_quotient F_fquot:=pspec_of (mkTE_ok (PTl_ok (l:=[(id_frac_New,F_fNew)]) (PTl_cons ps_fNew PTl_nil)) (ETl_ok (l:=[]) ETl_nil)) mixed Tryz.func66 nm_fquot tr_fquot fun ds r h=>by
 obtain⟨⟨x0,x1,x2,x3,x4,x5⟩,hds,hr⟩:=FF_inv h
 clear h
 subst hds
 obtain⟨hc,rfl⟩:=onlyIf_inv hr
 exact⟨Nat.le_of_ble_eq_true rfl,w_fquot _ (mkTE_F rfl rfl) x0 x1 x2 x3 x4 x5 hc⟩
theorem tr_fAdd:trFunc Tryz.prog 119000 [] Tryz.f37=some { mf_frac_Add with body:=erase mf_frac_Add.body }:=by kernel_rfl
theorem nm_fAdd : (Tryz.f37.name == "runtime.NumGoroutine") = false := by kernel_rfl
theorem ps_fAdd:PSpec Tryz.prog id_frac_Add F_fAdd:=pspec_of (mkTE_ok (PTl_ok (l:=[(id_frac_Right,F_fRight),(id_frac_sum,F_fsum),(id_big_Mul,F_Mul),(id_frac_quotient,F_fquot)]) (PTl_cons ps_fRight (PTl_cons ps_fsum (PTl_cons ps_Mul (PTl_cons ps_fquot PTl_nil))))) (ETl_ok (l:=[]) ETl_nil)) mixed Tryz.func37 nm_fAdd tr_fAdd fun ds r h=>by
 obtain⟨⟨x0,x1,x2,x3,x4,x5,x6,x7⟩,hds,hr⟩:=FF_inv h
 clear h
 subst hds
 obtain⟨hc,rfl⟩:=onlyIf_inv hr
 exact⟨Nat.le_of_ble_eq_true rfl,w_fAdd _ (mkTE_F rfl rfl) (mkTE_F rfl rfl) (mkTE_F rfl rfl) (mkTE_F rfl rfl) x0 x1 x2 x3 x4 x5 x6 x7 hc⟩
theorem tr_fSub:trFunc Tryz.prog 132000 [] Tryz.f26=some { mf_frac_Sub with body:=erase mf_frac_Sub.body }:=by kernel_rfl
theorem nm_fSub : (Tryz.f26.name == "runtime.NumGoroutine") = false := by kernel_rfl
theorem ps_fSub:PSpec Tryz.prog id_frac_Sub F_fSub:=pspec_of (mkTE_ok (PTl_ok (l:=[(id_frac_Right,F_fRight),(id_big_Neg,F_Neg),(id_frac_Add,F_fAdd)]) (PTl_cons ps_fRight (PTl_cons ps_Neg (PTl_cons ps_fAdd PTl_nil)))) (ETl_ok (l:=[]) ETl_nil)) mixed Tryz.func26 nm_fSub tr_fSub fun ds r h=>by
 obtain⟨⟨x0,x1,x2,x3,x4,x5,x6,x7⟩,hds,hr⟩:=FF_inv h
 clear h
 subst hds
 obtain⟨hc,rfl⟩:=onlyIf_inv hr
 exact⟨Nat.le_of_ble_eq_true rfl,w_fSub _ (mkTE_F rfl rfl) (mkTE_F rfl rfl) (mkTE_F rfl rfl) x0 x1 x2 x3 x4 x5 x6 x7 hc⟩
theorem tr_fMul:trFunc Tryz.prog 134000 [] Tryz.f36=some { mf_frac_Mul with body:=erase mf_frac_Mul.body }:=by kernel_rfl
theorem nm_fMul : (Tryz.f36.name == "runtime.NumGoroutine") = false := by kernel_rfl
theorem ps_fMul:PSpec Tryz.prog id_frac_Mul F_fMul:=pspec_of (mkTE_ok (PTl_ok (l:=[(id_frac_Right,F_fRight),(id_big_Mul,F_Mul),(id_frac_quotient,F_fquot)]) (PTl_cons ps_fRight (PTl_cons ps_Mul (PTl_cons ps_fquot PTl_nil)))) (ETl_ok (l:=[]) ETl_nil)) mixed Tryz.func36 nm_fMul tr_fMul fun ds r h=>by
 obtain⟨⟨x0,x1,x2,x3,x4,x5,x6,x7⟩,hds,hr⟩:=FF_inv h
 clear h
 subst hds
 obtain⟨hc,rfl⟩:=onlyIf_inv hr
 exact⟨Nat.le_of_ble_eq_true rfl,w_fMul _ (mkTE_F rfl rfl) (mkTE_F rfl rfl) (mkTE_F rfl rfl) x0 x1 x2 x3 x4 x5 x6 x7 hc⟩
theorem tr_fDiv:trFunc Tryz.prog 169000 [] Tryz.f76=some { mf_frac_Div with body:=erase mf_frac_Div.body }:=by kernel_rfl
theorem nm_fDiv : (Tryz.f76.name == "runtime.NumGoroutine") = false := by kernel_rfl
theorem ps_fDiv:PSpec Tryz.prog id_frac_Div F_fDiv:=pspec_of (mkTE_ok (PTl_ok (l:=[(id_frac_Right,F_fRight),(id_big_Mul,F_Mul),(id_frac_quotient,F_fquot)]) (PTl_cons ps_fRight (PTl_cons ps_Mul (PTl_cons ps_fquot PTl_nil)))) (ETl_ok (l:=[]) ETl_nil)) mixed Tryz.func76 nm_fDiv tr_fDiv fun ds r h=>by
 obtain⟨⟨x0,x1,x2,x3,x4,x5,x6,x7⟩,hds,hr⟩:=FF_inv h
 clear h
 subst hds
 obtain⟨hc,rfl⟩:=onlyIf_inv hr
 exact⟨Nat.le_of_ble_eq_true rfl,w_fDiv _ (mkTE_F rfl rfl) (mkTE_F rfl rfl) (mkTE_F rfl rfl) x0 x1 x2 x3 x4 x5 x6 x7 hc⟩
theorem tr_fCompare:trFunc Tryz.prog 135000 [] Tryz.f38=some { mf_frac_Compare with body:=erase mf_frac_Compare.body }:=by kernel_rfl
theorem nm_fCompare : (Tryz.f38.name == "runtime.NumGoroutine") = false := by kernel_rfl
theorem ps_fCompare:PSpec Tryz.prog id_frac_Compare F_fCompare:=pspec_of (mkTE_ok (PTl_ok (l:=[(id_frac_Right,F_fRight),(id_big_Div,F_Div),(id_big_Compare,F_Compare)]) (PTl_cons ps_fRight (PTl_cons ps_Div (PTl_cons ps_Compare PTl_nil)))) (ETl_ok (l:=[]) ETl_nil)) mixed Tryz.func38 nm_fCompare tr_fCompare fun ds r h=>by
 obtain⟨⟨x0,x1,x2,x3,x4,x5,x6,x7⟩,hds,hr⟩:=FF_inv h
 clear h
 subst hds
 obtain⟨hc,rfl⟩:=onlyIf_inv hr
 exact⟨Nat.le_of_ble_eq_true rfl,w_fCompare _ (mkTE_F rfl rfl) (mkTE_F rfl rfl) (mkTE_F rfl rfl) x0 x1 x2 x3 x4 x5 x6 x7 hc⟩
end Go.Mini
namespace Go.Mini
open Go Go.Proofs
set_option maxRecDepth 100000
theorem tr_wrong1:trFunc Tryz.prog 125000 [] Tryz.f28=some { mf_linear_Right_1 with body:=erase mf_linear_Right_1.body }:=by kernel_rfl
theorem nm_wrong1 : (Tryz.f28.name == "runtime.NumGoroutine") = false := by kernel_rfl
theorem ps_wrong1:PSpec Tryz.prog id_linear_Right_1 F_wrong1:=pspec_of (mkTE_ok (PTl_ok (l:=[(id_frac_Right,F_fRight)]) (PTl_cons ps_fRight PTl_nil)) (ETl_ok (l:=[]) ETl_nil)) mixed Tryz.func28 nm_wrong1 tr_wrong1 fun ds r h=>by
 obtain⟨⟨x0,x1,x2,x3⟩,hds,hr⟩:=FF_inv h
 clear h
 subst hds
 obtain⟨hc,rfl⟩:=onlyIf_inv hr
 exact⟨Nat.le_of_ble_eq_true rfl,w_wrong1 _ (mkTE_F rfl rfl) x0 x1 x2 x3 hc⟩
theorem tr_wrong2:trFunc Tryz.prog 133000 [] Tryz.f35=some { mf_linear_Check_1 with body:=erase mf_linear_Check_1.body }:=by kernel_rfl
theorem nm_wrong2 : (Tryz.f35.name == "runtime.NumGoroutine") = false := by kernel_rfl
theorem ps_wrong2:PSpec Tryz.prog id_linear_Check_1 F_wrong2:=pspec_of (mkTE_ok (PTl_ok (l:=[(id_frac_Right,F_fRight)]) (PTl_cons ps_fRight PTl_nil)) (ETl_ok (l:=[]) ETl_nil)) mixed Tryz.func35 nm_wrong2 tr_wrong2 fun ds r h=>by
 obtain⟨⟨x0,x1,x2,x3⟩,hds,hr⟩:=FF_inv h
 clear h
 subst hds
 obtain⟨hc,rfl⟩:=onlyIf_inv hr
 exact⟨Nat.le_of_ble_eq_true rfl,w_wrong2 _ (mkTE_F rfl rfl) x0 x1 x2 x3 hc⟩
theorem tr_ixFrac:trFunc Tryz.prog 146000 [] Tryz.f60=some { mf_slices_IndexFunc_Frac with body:=erase mf_slices_IndexFunc_Frac.body }:=by kernel_rfl
theorem nm_ixFrac : (Tryz.f60.name == "runtime.NumGoroutine") = false := by kernel_rfl
theorem ps_ixFrac:PSpec Tryz.prog id_slices_IndexFunc_Frac F_ixFrac:=pspec_of (mkTE_ok (PTl_ok (l:=[(id_linear_Right_1,F_wrong1),(id_linear_Check_1,F_wrong2)]) (PTl_cons ps_wrong1 (PTl_cons ps_wrong2 PTl_nil))) (ETl_ok (l:=[]) ETl_nil)) mixed Tryz.func60 nm_ixFrac tr_ixFrac fun ds r h=>by
 obtain⟨⟨x0,x1⟩,hds,hr⟩:=FF_inv h
 clear h
 subst hds
 obtain⟨hc,rfl⟩:=onlyIf_inv hr
 exact⟨Nat.le_of_ble_eq_true rfl,w_ixFrac _ (mkTE_F rfl rfl) (mkTE_F rfl rfl) x0 x1 hc⟩
theorem tr_anyFrac:trFunc Tryz.prog 128000 [] Tryz.f32=some { mf_slices_ContainsFunc_Frac with body:=erase mf_slices_ContainsFunc_Frac.body }:=by kernel_rfl
theorem nm_anyFrac : (Tryz.f32.name == "runtime.NumGoroutine") = false := by kernel_rfl
theorem ps_anyFrac:PSpec Tryz.prog id_slices_ContainsFunc_Frac F_anyFrac:=pspec_of (mkTE_ok (PTl_ok (l:=[(id_slices_IndexFunc_Frac,F_ixFrac)]) (PTl_cons ps_ixFrac PTl_nil)) (ETl_ok (l:=[]) ETl_nil)) mixed Tryz.func32 nm_anyFrac tr_anyFrac fun ds r h=>by
 obtain⟨⟨x0,x1⟩,hds,hr⟩:=FF_inv h
 clear h
 subst hds
 obtain⟨hc,rfl⟩:=onlyIf_inv hr
 exact⟨Nat.le_of_ble_eq_true rfl,w_anyFrac _ (mkTE_F rfl rfl) x0 x1 hc⟩
theorem tr_wrongRow:trFunc Tryz.prog 127000 [] Tryz.f31=some { mf_linear_Right_2 with body:=erase mf_linear_Right_2.body }:=by kernel_rfl
theorem nm_wrongRow : (Tryz.f31.name == "runtime.NumGoroutine") = false := by kernel_rfl
theorem ps_wrongRow:PSpec Tryz.prog id_linear_Right_2 F_wrongRow:=pspec_of (mkTE_ok (PTl_ok (l:=[(id_linear_Right_1,F_wrong1),(id_slices_ContainsFunc_Frac,F_anyFrac)]) (PTl_cons ps_wrong1 (PTl_cons ps_anyFrac PTl_nil))) (ETl_ok (l:=[]) ETl_nil)) mixed Tryz.func31 nm_wrongRow tr_wrongRow fun ds r h=>by
 obtain⟨⟨x0,x1,x2,x3,x4,x5⟩,hds,hr⟩:=FF_inv h
 clear h
 subst hds
 obtain⟨hc,rfl⟩:=onlyIf_inv hr
 exact⟨Nat.le_of_ble_eq_true rfl,w_wrongRow _ (mkTE_F rfl rfl) (mkTE_F rfl rfl) x0 x1 x2 x3 x4 x5 hc⟩
theorem tr_ixRow:trFunc Tryz.prog 145000 [] Tryz.f59=some { mf_slices_IndexFunc_Row with body:=erase mf_slices_IndexFunc_Row.body }:=by kernel_rfl
theorem nm_ixRow : (Tryz.f59.name == "runtime.NumGoroutine") = false := by kernel_rfl
theorem ps_ixRow:PSpec Tryz.prog id_slices_IndexFunc_Row F_ixRow:=pspec_of (mkTE_ok (PTl_ok (l:=[(id_linear_Right_2,F_wrongRow)]) (PTl_cons ps_wrongRow PTl_nil)) (ETl_ok (l:=[]) ETl_nil)) mixed Tryz.func59 nm_ixRow tr_ixRow fun ds r h=>by
 obtain⟨⟨x0,x1⟩,hds,hr⟩:=FF_inv h
 clear h
 subst hds
 obtain⟨hc,rfl⟩:=onlyIf_inv hr
 exact⟨Nat.le_of_ble_eq_true rfl,w_ixRow _ (mkTE_F rfl rfl) x0 x1 hc⟩
theorem tr_anyRow:trFunc Tryz.prog 126000 [] Tryz.f30=some { mf_slices_ContainsFunc_Row with body:=erase mf_slices_ContainsFunc_Row.body }:=by kernel_rfl
theorem nm_anyRow : (Tryz.f30.name == "runtime.NumGoroutine") = false := by kernel_rfl
theorem ps_anyRow:PSpec Tryz.prog id_slices_ContainsFunc_Row F_anyRow:=pspec_of (mkTE_ok (PTl_ok (l:=[(id_slices_IndexFunc_Row,F_ixRow)]) (PTl_cons ps_ixRow PTl_nil)) (ETl_ok (l:=[]) ETl_nil)) mixed Tryz.func30 nm_anyRow tr_anyRow fun ds r h=>by
 obtain⟨⟨x0,x1⟩,hds,hr⟩:=FF_inv h
 clear h
 subst hds
 obtain⟨hc,rfl⟩:=onlyIf_inv hr
 exact⟨Nat.le_of_ble_eq_true rfl,w_anyRow _ (mkTE_F rfl rfl) x0 x1 hc⟩
theorem tr_linRight:trFunc Tryz.prog 108000 [] Tryz.f13=some { mf_linear_Right with body:=erase mf_linear_Right.body }:=by kernel_rfl
theorem nm_linRight : (Tryz.f13.name == "runtime.NumGoroutine") = false := by kernel_rfl
theorem ps_linRight:PSpec Tryz.prog id_linear_Right F_linRight:=pspec_of (mkTE_ok (PTl_ok (l:=[(id_slices_ContainsFunc_Row,F_anyRow)]) (PTl_cons ps_anyRow PTl_nil)) (ETl_ok (l:=[]) ETl_nil)) mixed Tryz.func13 nm_linRight tr_linRight fun ds r h=>by
 obtain⟨⟨x0,x1⟩,hds,hr⟩:=FF_inv h
 clear h
 subst hds
 obtain⟨hc,rfl⟩:=onlyIf_inv hr
 exact⟨Nat.le_of_ble_eq_true rfl,w_linRight _ (mkTE_F rfl rfl) x0 x1 hc⟩
theorem tr_note:trFunc Tryz.prog 168000 [] Tryz.f75=some { mf_linear_matrix_note with body:=erase mf_linear_matrix_note.body }:=by kernel_rfl
theorem nm_note : (Tryz.f75.name == "runtime.NumGoroutine") = false := by kernel_rfl
theorem es_note:ESpec Tryz.prog id_linear_matrix_note (mkU U_note):=espec_upd (mkTE_ok (PTl_ok (l:=[]) PTl_nil) (ETl_ok (l:=[]) ETl_nil)) mixed Tryz.func75 nm_note tr_note noteJ fun args mem r k g i d h=>by
 obtain⟨h1,h2,h3,h4,h5⟩:=w_note _ args mem r k g i d h
 exact⟨h1,h2,h3,h4,h5⟩
theorem tr_zero:trFunc Tryz.prog 167000 [] Tryz.f74=some { mf_linear_zero with body:=erase mf_linear_zero.body }:=by kernel_rfl
theorem nm_zero : (Tryz.f74.name == "runtime.NumGoroutine") = false := by kernel_rfl
theorem ps_zero:PSpec Tryz.prog id_linear_zero F_zero:=pspec_of (mkTE_ok (PTl_ok (l:=[]) PTl_nil) (ETl_ok (l:=[]) ETl_nil)) mixed Tryz.func74 nm_zero tr_zero fun ds r h=>by
 obtain⟨⟨x0,x1,x2,x3⟩,hds,hr⟩:=FF_inv h
 clear h
 subst hds
 obtain rfl:=Option.some.inj hr
 exact⟨Nat.le_of_ble_eq_true rfl,w_zero _  x0 x1 x2 x3⟩
theorem tr_pivot:trFunc Tryz.prog 148000 [3000106,3000165,3000169] Tryz.f44=some { mf_linear_matrix_pivot with body:=erase mf_linear_matrix_pivot.body }:=by kernel_rfl
theorem nm_pivot : (Tryz.f44.name == "runtime.NumGoroutine") = false := by kernel_rfl
theorem es_pivot:ESpec Tryz.prog id_linear_matrix_pivot (mkQ Q_pivot):=espec_rel (mkTE_ok (PTl_ok (l:=[(id_linear_zero,F_zero),(id_frac_Div,F_fDiv),(id_frac_Sub,F_fSub),(id_frac_Mul,F_fMul)]) (PTl_cons ps_zero (PTl_cons ps_fDiv (PTl_cons ps_fSub (PTl_cons ps_fMul PTl_nil))))) (ETl_ok (l:=[(id_linear_matrix_note,mkU U_note)]) (ETl_cons es_note ETl_nil))) mixed Tryz.func44 nm_pivot tr_pivot fun args mem R h=>by
 obtain⟨a,rfl,⟨h1,h2,h3,h4,h5,h6,h7⟩,rfl⟩:=Q_pivot_inv h
 exact⟨Nat.le_of_ble_eq_true rfl,w_pivot _ (mkTE_F rfl rfl) (mkTE_E rfl rfl) (mkTE_F rfl rfl) (mkTE_F rfl rfl) (mkTE_F rfl rfl) a.go a.N a.rows a.r a.c mem h1 h2 h3 h4 h5 h6 h7⟩
theorem tr_cloneF:trFunc Tryz.prog 147000 [5] Tryz.f43=some { mf_slices_Clone_Frac with body:=erase mf_slices_Clone_Frac.body }:=by kernel_rfl
theorem nm_cloneF : (Tryz.f43.name == "runtime.NumGoroutine") = false := by kernel_rfl
theorem ps_cloneF:PSpec Tryz.prog id_slices_Clone_Frac F_cloneF:=pspec_of (mkTE_ok (PTl_ok (l:=[]) PTl_nil) (ETl_ok (l:=[]) ETl_nil)) mixed Tryz.func43 nm_cloneF tr_cloneF fun ds r h=>by
 obtain⟨x0,hds,hr⟩:=FF_inv h
 clear h
 subst hds
 obtain⟨hc,rfl⟩:=onlyIf_inv hr
 exact⟨Nat.le_of_ble_eq_true rfl,w_cloneF _  x0 hc⟩
theorem tr_elim:trFunc Tryz.prog 129000 [29,34] Tryz.f22=some { mf_linear_eliminated with body:=erase mf_linear_eliminated.body }:=by kernel_rfl
theorem nm_elim : (Tryz.f22.name == "runtime.NumGoroutine") = false := by kernel_rfl
theorem ps_elim:PSpec Tryz.prog id_linear_eliminated F_elim:=pspec_of (mkTE_ok (PTl_ok (l:=[(id_slices_Clone_Frac,F_cloneF)]) (PTl_cons ps_cloneF PTl_nil)) (ETl_ok (l:=[(id_linear_matrix_pivot,mkQ Q_pivot)]) (ETl_cons es_pivot ETl_nil))) mixed Tryz.func22 nm_elim tr_elim fun ds r h=>by
 obtain⟨⟨x0,x1,x2⟩,hds,hr⟩:=FF_inv h
 clear h
 subst hds
 obtain⟨hc,rfl⟩:=onlyIf_inv hr
 exact⟨Nat.le_of_ble_eq_true rfl,w_elim _ (mkTE_F rfl rfl) (mkTE_E rfl rfl) x0 x1 x2 hc⟩
theorem tr_linRank:trFunc Tryz.prog 121000 [] Tryz.f11=some { mf_linear_Rank with body:=erase mf_linear_Rank.body }:=by kernel_rfl
theorem nm_linRank : (Tryz.f11.name == "runtime.NumGoroutine") = false := by kernel_rfl
theorem ps_linRank:PSpec Tryz.prog id_linear_Rank F_linRank:=pspec_of (mkTE_ok (PTl_ok (l:=[(id_linear_Right,F_linRight),(id_linear_eliminated,F_elim)]) (PTl_cons ps_linRight (PTl_cons ps_elim PTl_nil))) (ETl_ok (l:=[]) ETl_nil)) mixed Tryz.func11 nm_linRank tr_linRank fun ds r h=>by
 obtain⟨⟨x0,x1⟩,hds,hr⟩:=FF_inv h
 clear h
 subst hds
 obtain⟨hc,rfl⟩:=onlyIf_inv hr
 exact⟨Nat.le_of_ble_eq_true rfl,w_linRank _ (mkTE_F rfl rfl) (mkTE_F rfl rfl) x0 x1 hc⟩
theorem tr_linSolve:trFunc Tryz.prog 109000 [] Tryz.f7=some { mf_linear_Solve with body:=erase mf_linear_Solve.body }:=by kernel_rfl
theorem nm_linSolve : (Tryz.f7.name == "runtime.NumGoroutine") = false := by kernel_rfl
theorem ps_linSolve:PSpec Tryz.prog id_linear_Solve F_linSolve:=pspec_of (mkTE_ok (PTl_ok (l:=[(id_linear_Right,F_linRight),(id_linear_eliminated,F_elim)]) (PTl_cons ps_linRight (PTl_cons ps_elim PTl_nil))) (ETl_ok (l:=[]) ETl_nil)) mixed Tryz.func7 nm_linSolve tr_linSolve fun ds r h=>by
 obtain⟨⟨x0,x1⟩,hds,hr⟩:=FF_inv h
 clear h
 subst hds
 obtain⟨hc,rfl⟩:=onlyIf_inv hr
 exact⟨Nat.le_of_ble_eq_true rfl,w_linSolve _ (mkTE_F rfl rfl) (mkTE_F rfl rfl) x0 x1 hc⟩
theorem tr_mul64:trFunc Tryz.prog 171000 [] Tryz.f81=some { mf_math_bits_Mul64 with body:=erase mf_math_bits_Mul64.body }:=by kernel_rfl
theorem nm_mul64 : (Tryz.f81.name == "runtime.NumGoroutine") = false := by kernel_rfl
theorem ps_mul64:PSpec Tryz.prog id_math_bits_Mul64 F_mul64:=pspec_of (mkTE_ok (PTl_ok (l:=[]) PTl_nil) (ETl_ok (l:=[]) ETl_nil)) mixed Tryz.func81 nm_mul64 tr_mul64 fun ds r h=>by
 obtain⟨x0,hds,hr⟩:=FF_inv h
 clear h
 subst hds
 obtain⟨hc,rfl⟩:=onlyIf_inv hr
 exact⟨Nat.le_of_ble_eq_true rfl,w_mul64 _  x0 hc⟩
theorem tr_bmul:trFunc Tryz.prog 151000 [] Tryz.f51=some { mf_math_bits_Mul with body:=erase mf_math_bits_Mul.body }:=by kernel_rfl
theorem nm_bmul : (Tryz.f51.name == "runtime.NumGoroutine") = false := by kernel_rfl
theorem ps_bmul:PSpec Tryz.prog id_math_bits_Mul F_bmul:=pspec_of (mkTE_ok (PTl_ok (l:=[(id_math_bits_Mul64,F_mul64)]) (PTl_cons ps_mul64 PTl_nil)) (ETl_ok (l:=[]) ETl_nil)) mixed Tryz.func51 nm_bmul tr_bmul fun ds r h=>by
 obtain⟨x0,hds,hr⟩:=FF_inv h
 clear h
 subst hds
 obtain⟨hc,rfl⟩:=onlyIf_inv hr
 exact⟨Nat.le_of_ble_eq_true rfl,w_bmul _ (mkTE_F rfl rfl) x0 hc⟩
theorem tr_repeatF:trFunc Tryz.prog 131000 [] Tryz.f25=some { mf_slices_Repeat_Frac with body:=erase mf_slices_Repeat_Frac.body }:=by kernel_rfl
theorem nm_repeatF : (Tryz.f25.name == "runtime.NumGoroutine") = false := by kernel_rfl
theorem ps_repeatF:PSpec Tryz.prog id_slices_Repeat_Frac F_repeatF:=pspec_of (mkTE_ok (PTl_ok (l:=[(id_math_bits_Mul,F_bmul)]) (PTl_cons ps_bmul PTl_nil)) (ETl_ok (l:=[]) ETl_nil)) mixed Tryz.func25 nm_repeatF tr_repeatF fun ds r h=>by
 obtain⟨⟨x0,x1,x2,x3,x4⟩,hds,hr⟩:=FF_inv h
 clear h
 subst hds
 obtain⟨hc,rfl⟩:=onlyIf_inv hr
 exact⟨Nat.le_of_ble_eq_true rfl,w_repeatF _ (mkTE_F rfl rfl) x0 x1 x2 x3 x4 hc⟩
theorem tr_linKern:trFunc Tryz.prog 110000 [38] Tryz.f9=some { mf_linear_Kernel with body:=erase mf_linear_Kernel.body }:=by kernel_rfl
theorem nm_linKern : (Tryz.f9.name == "runtime.NumGoroutine") = false := by kernel_rfl
theorem ps_linKern:PSpec Tryz.prog id_linear_Kernel F_linKern:=pspec_of (mkTE_ok (PTl_ok (l:=[(id_linear_Right,F_linRight),(id_linear_eliminated,F_elim),(id_frac_Of,F_fOf),(id_slices_Repeat_Frac,F_repeatF),(id_frac_Sub,F_fSub)]) (PTl_cons ps_linRight (PTl_cons ps_elim (PTl_cons ps_fOf (PTl_cons ps_repeatF (PTl_cons ps_fSub PTl_nil)))))) (ETl_ok (l:=[]) ETl_nil)) mixed Tryz.func9 nm_linKern tr_linKern fun ds r h=>by
 obtain⟨⟨x0,x1⟩,hds,hr⟩:=FF_inv h
 clear h
 subst hds
 obtain⟨hc,rfl⟩:=onlyIf_inv hr
 exact⟨Nat.le_of_ble_eq_true rfl,w_linKern _ (mkTE_F rfl rfl) (mkTE_F rfl rfl) (mkTE_F rfl rfl) (mkTE_F rfl rfl) (mkTE_F rfl rfl) x0 x1 hc⟩
theorem tr_linCheck:trFunc Tryz.prog 111000 [] Tryz.f16=some { mf_linear_Check with body:=erase mf_linear_Check.body }:=by kernel_rfl
theorem nm_linCheck : (Tryz.f16.name == "runtime.NumGoroutine") = false := by kernel_rfl
theorem ps_linCheck:PSpec Tryz.prog id_linear_Check F_linCheck:=pspec_of (mkTE_ok (PTl_ok (l:=[(id_linear_Right,F_linRight),(id_slices_ContainsFunc_Frac,F_anyFrac),(id_frac_Of,F_fOf),(id_frac_Mul,F_fMul),(id_frac_Add,F_fAdd),(id_frac_Compare,F_fCompare)]) (PTl_cons ps_linRight (PTl_cons ps_anyFrac (PTl_cons ps_fOf (PTl_cons ps_fMul (PTl_cons ps_fAdd (PTl_cons ps_fCompare PTl_nil))))))) (ETl_ok (l:=[]) ETl_nil)) mixed Tryz.func16 nm_linCheck tr_linCheck fun ds r h=>by
 obtain⟨⟨x0,x1,x2⟩,hds,hr⟩:=FF_inv h
 clear h
 subst hds
 obtain⟨hc,rfl⟩:=onlyIf_inv hr
 exact⟨Nat.le_of_ble_eq_true rfl,w_linCheck _ (mkTE_F rfl rfl) (mkTE_F rfl rfl) (mkTE_F rfl rfl) (mkTE_F rfl rfl) (mkTE_F rfl rfl) (mkTE_F rfl rfl) x0 x1 x2 hc⟩
theorem tr_rtrim:trFunc Tryz.prog 183000 [18] Tryz.f99=some { mf_ref04_trim with body:=erase mf_ref04_trim.body }:=by kernel_rfl
theorem nm_rtrim : (Tryz.f99.name == "runtime.NumGoroutine") = false := by kernel_rfl
theorem ps_rtrim:PSpec Tryz.prog id_ref04_trim F_rtrim:=pspec_of (mkTE_ok (PTl_ok (l:=[]) PTl_nil) (ETl_ok (l:=[]) ETl_nil)) mixed Tryz.func99 nm_rtrim tr_rtrim fun ds r h=>by
 obtain⟨x0,hds,hr⟩:=FF_inv h
 clear h
 subst hds
 obtain⟨hc,rfl⟩:=onlyIf_inv hr
 exact⟨Nat.le_of_ble_eq_true rfl,w_rtrim _  x0 hc⟩
theorem tr_rdigit:trFunc Tryz.prog 187000 [] Tryz.f101=some { mf_ref04_digit with body:=erase mf_ref04_digit.body }:=by kernel_rfl
theorem nm_rdigit : (Tryz.f101.name == "runtime.NumGoroutine") = false := by kernel_rfl
theorem ps_rdigit:PSpec Tryz.prog id_ref04_digit F_rdigit:=pspec_of (mkTE_ok (PTl_ok (l:=[]) PTl_nil) (ETl_ok (l:=[]) ETl_nil)) mixed Tryz.func101 nm_rdigit tr_rdigit fun ds r h=>by
 obtain⟨⟨x0,x1⟩,hds,hr⟩:=FF_inv h
 clear h
 subst hds
 obtain⟨hc,rfl⟩:=onlyIf_inv hr
 exact⟨Nat.le_of_ble_eq_true rfl,w_rdigit _  x0 x1 hc⟩
theorem tr_rless:trFunc Tryz.prog 185000 [] Tryz.f90=some { mf_ref04_less with body:=erase mf_ref04_less.body }:=by kernel_rfl
theorem nm_rless : (Tryz.f90.name == "runtime.NumGoroutine") = false := by kernel_rfl
theorem ps_rless:PSpec Tryz.prog id_ref04_less F_rless:=pspec_of (mkTE_ok (PTl_ok (l:=[(id_ref04_digit,F_rdigit)]) (PTl_cons ps_rdigit PTl_nil)) (ETl_ok (l:=[]) ETl_nil)) mixed Tryz.func90 nm_rless tr_rless fun ds r h=>by
 obtain⟨⟨x0,x1⟩,hds,hr⟩:=FF_inv h
 clear h
 subst hds
 obtain⟨hc,rfl⟩:=onlyIf_inv hr
 exact⟨Nat.le_of_ble_eq_true rfl,w_rless _ (mkTE_F rfl rfl) x0 x1 hc⟩
theorem tr_rplus:trFunc Tryz.prog 181000 [] Tryz.f97=some { mf_ref04_plus with body:=erase mf_ref04_plus.body }:=by kernel_rfl
theorem nm_rplus : (Tryz.f97.name == "runtime.NumGoroutine") = false := by kernel_rfl
theorem ps_rplus:PSpec Tryz.prog id_ref04_plus F_rplus:=pspec_of (mkTE_ok (PTl_ok (l:=[(id_ref04_digit,F_rdigit),(id_ref04_trim,F_rtrim)]) (PTl_cons ps_rdigit (PTl_cons ps_rtrim PTl_nil))) (ETl_ok (l:=[]) ETl_nil)) mixed Tryz.func97 nm_rplus tr_rplus fun ds r h=>by
 obtain⟨⟨x0,x1⟩,hds,hr⟩:=FF_inv h
 clear h
 subst hds
 obtain⟨hc,rfl⟩:=onlyIf_inv hr
 exact⟨Nat.le_of_ble_eq_true rfl,w_rplus _ (mkTE_F rfl rfl) (mkTE_F rfl rfl) x0 x1 hc⟩
theorem tr_rminus:trFunc Tryz.prog 182000 [] Tryz.f98=some { mf_ref04_minus with body:=erase mf_ref04_minus.body }:=by kernel_rfl
theorem nm_rminus : (Tryz.f98.name == "runtime.NumGoroutine") = false := by kernel_rfl
theorem ps_rminus:PSpec Tryz.prog id_ref04_minus F_rminus:=pspec_of (mkTE_ok (PTl_ok (l:=[(id_ref04_digit,F_rdigit),(id_ref04_trim,F_rtrim)]) (PTl_cons ps_rdigit (PTl_cons ps_rtrim PTl_nil))) (ETl_ok (l:=[]) ETl_nil)) mixed Tryz.func98 nm_rminus tr_rminus fun ds r h=>by
 obtain⟨⟨x0,x1⟩,hds,hr⟩:=FF_inv h
 clear h
 subst hds
 obtain⟨hc,rfl⟩:=onlyIf_inv hr
 exact⟨Nat.le_of_ble_eq_true rfl,w_rminus _ (mkTE_F rfl rfl) (mkTE_F rfl rfl) x0 x1 hc⟩
theorem tr_rtimes:trFunc Tryz.prog 186000 [] Tryz.f84=some { mf_ref04_times with body:=erase mf_ref04_times.body }:=by kernel_rfl
theorem nm_rtimes : (Tryz.f84.name == "runtime.NumGoroutine") = false := by kernel_rfl
theorem ps_rtimes:PSpec Tryz.prog id_ref04_times F_rtimes:=pspec_of (mkTE_ok (PTl_ok (l:=[(id_ref04_digit,F_rdigit),(id_ref04_trim,F_rtrim)]) (PTl_cons ps_rdigit (PTl_cons ps_rtrim PTl_nil))) (ETl_ok (l:=[]) ETl_nil)) mixed Tryz.func84 nm_rtimes tr_rtimes fun ds r h=>by
 obtain⟨⟨x0,x1⟩,hds,hr⟩:=FF_inv h
 clear h
 subst hds
 obtain⟨hc,rfl⟩:=onlyIf_inv hr
 exact⟨Nat.le_of_ble_eq_true rfl,w_rtimes _ (mkTE_F rfl rfl) (mkTE_F rfl rfl) x0 x1 hc⟩
theorem tr_rover:trFunc Tryz.prog 180000 [26] Tryz.f88=some { mf_ref04_over with body:=erase mf_ref04_over.body }:=by kernel_rfl
theorem nm_rover : (Tryz.f88.name == "runtime.NumGoroutine") = false := by kernel_rfl
theorem ps_rover:PSpec Tryz.prog id_ref04_over F_rover:=pspec_of (mkTE_ok (PTl_ok (l:=[(id_ref04_trim,F_rtrim),(id_ref04_times,F_rtimes),(id_ref04_less,F_rless),(id_ref04_minus,F_rminus)]) (PTl_cons ps_rtrim (PTl_cons ps_rtimes (PTl_cons ps_rless (PTl_cons ps_rminus PTl_nil))))) (ETl_ok (l:=[]) ETl_nil)) mixed Tryz.func88 nm_rover tr_rover fun ds r h=>by
 obtain⟨⟨x0,x1⟩,hds,hr⟩:=FF_inv h
 clear h
 subst hds
 obtain⟨hc,rfl⟩:=onlyIf_inv hr
 exact⟨Nat.le_of_ble_eq_true rfl,w_rover _ (mkTE_F rfl rfl) (mkTE_F rfl rfl) (mkTE_F rfl rfl) (mkTE_F rfl rfl) x0 x1 hc⟩
theorem tr_rmade:trFunc Tryz.prog 166000 [] Tryz.f73=some { mf_ref04_made with body:=erase mf_ref04_made.body }:=by kernel_rfl
theorem nm_rmade : (Tryz.f73.name == "runtime.NumGoroutine") = false := by kernel_rfl
theorem ps_rmade:PSpec Tryz.prog id_ref04_made F_rmade:=pspec_of (mkTE_ok (PTl_ok (l:=[(id_ref04_trim,F_rtrim)]) (PTl_cons ps_rtrim PTl_nil)) (ETl_ok (l:=[]) ETl_nil)) mixed Tryz.func73 nm_rmade tr_rmade fun ds r h=>by
 obtain⟨⟨x0,x1⟩,hds,hr⟩:=FF_inv h
 clear h
 subst hds
 obtain⟨hc,rfl⟩:=onlyIf_inv hr
 exact⟨Nat.le_of_ble_eq_true rfl,w_rmade _ (mkTE_F rfl rfl) x0 x1 hc⟩
theorem tr_rRight:trFunc Tryz.prog 162000 [] Tryz.f61=some { mf_ref04_Right with body:=erase mf_ref04_Right.body }:=by kernel_rfl
theorem nm_rRight : (Tryz.f61.name == "runtime.NumGoroutine") = false := by kernel_rfl
theorem ps_rRight:PSpec Tryz.prog id_ref04_Right F_rRight:=pspec_of (mkTE_ok (PTl_ok (l:=[]) PTl_nil) (ETl_ok (l:=[]) ETl_nil)) mixed Tryz.func61 nm_rRight tr_rRight fun ds r h=>by
 obtain⟨⟨x0,x1⟩,hds,hr⟩:=FF_inv h
 clear h
 subst hds
 obtain⟨hc,rfl⟩:=onlyIf_inv hr
 exact⟨Nat.le_of_ble_eq_true rfl,w_rRight _  x0 x1 hc⟩
theorem tr_rNeg:trFunc Tryz.prog 163000 [] Tryz.f71=some { mf_ref04_Neg with body:=erase mf_ref04_Neg.body }:=by kernel_rfl
theorem nm_rNeg : (Tryz.f71.name == "runtime.NumGoroutine") = false := by kernel_rfl
theorem ps_rNeg:PSpec Tryz.prog id_ref04_Neg F_rNeg:=pspec_of (mkTE_ok (PTl_ok (l:=[(id_ref04_Right,F_rRight),(id_ref04_made,F_rmade)]) (PTl_cons ps_rRight (PTl_cons ps_rmade PTl_nil))) (ETl_ok (l:=[]) ETl_nil)) mixed Tryz.func71 nm_rNeg tr_rNeg fun ds r h=>by
 obtain⟨⟨x0,x1⟩,hds,hr⟩:=FF_inv h
 clear h
 subst hds
 obtain⟨hc,rfl⟩:=onlyIf_inv hr
 exact⟨Nat.le_of_ble_eq_true rfl,w_rNeg _ (mkTE_F rfl rfl) (mkTE_F rfl rfl) x0 x1 hc⟩
theorem tr_rOf:trFunc Tryz.prog 144000 [] Tryz.f42=some { mf_ref04_Of with body:=erase mf_ref04_Of.body }:=by kernel_rfl
theorem nm_rOf : (Tryz.f42.name == "runtime.NumGoroutine") = false := by kernel_rfl
theorem ps_rOf:PSpec Tryz.prog id_ref04_Of F_rOf:=pspec_of (mkTE_ok (PTl_ok (l:=[(id_ref04_made,F_rmade)]) (PTl_cons ps_rmade PTl_nil)) (ETl_ok (l:=[]) ETl_nil)) mixed Tryz.func42 nm_rOf tr_rOf fun ds r h=>by
 obtain⟨x0,hds,hr⟩:=FF_inv h
 clear h
 subst hds
 obtain⟨hc,rfl⟩:=onlyIf_inv hr
 exact⟨Nat.le_of_ble_eq_true rfl,w_rOf _ (mkTE_F rfl rfl) x0 hc⟩
theorem tr_rSame:trFunc Tryz.prog 210000 [] Tryz.f89=some { mf_ref04_Same with body:=erase mf_ref04_Same.body }:=by kernel_rfl
theorem nm_rSame : (Tryz.f89.name == "runtime.NumGoroutine") = false := by kernel_rfl
theorem ps_rSame:PSpec Tryz.prog id_ref04_Same F_rSame:=pspec_of (mkTE_ok (PTl_ok (l:=[]) PTl_nil) (ETl_ok (l:=[]) ETl_nil)) mixed Tryz.func89 nm_rSame tr_rSame fun ds r h=>by
 obtain⟨⟨x0,x1,x2,x3⟩,hds,hr⟩:=FF_inv h
 clear h
 subst hds
 obtain⟨hc,rfl⟩:=onlyIf_inv hr
 exact⟨Nat.le_of_ble_eq_true rfl,w_rSame _  x0 x1 x2 x3 hc⟩
theorem tr_rkept:trFunc Tryz.prog 209000 [] Tryz.f83=some { mf_ref04_kept with body:=erase mf_ref04_kept.body }:=by kernel_rfl
theorem nm_rkept : (Tryz.f83.name == "runtime.NumGoroutine") = false := by kernel_rfl
theorem ps_rkept:PSpec Tryz.prog id_ref04_kept F_rkept:=pspec_of (mkTE_ok (PTl_ok (l:=[]) PTl_nil) (ETl_ok (l:=[]) ETl_nil)) mixed Tryz.func83 nm_rkept tr_rkept fun ds r h=>by
 obtain⟨⟨x0,x1⟩,hds,hr⟩:=FF_inv h
 clear h
 subst hds
 obtain rfl:=Option.some.inj hr
 exact⟨Nat.le_of_ble_eq_true rfl,w_rkept _  x0 x1⟩
theorem tr_rCompare:trFunc Tryz.prog 205000 [] Tryz.f63=some { mf_ref04_Compare with body:=erase mf_ref04_Compare.body }:=by kernel_rfl
theorem nm_rCompare : (Tryz.f63.name == "runtime.NumGoroutine") = false := by kernel_rfl
theorem ps_rCompare:PSpec Tryz.prog id_ref04_Compare F_rCompare:=pspec_of (mkTE_ok (PTl_ok (l:=[(id_ref04_Right,F_rRight),(id_ref04_Same,F_rSame),(id_ref04_less,F_rless)]) (PTl_cons ps_rRight (PTl_cons ps_rSame (PTl_cons ps_rless PTl_nil)))) (ETl_ok (l:=[]) ETl_nil)) mixed Tryz.func63 nm_rCompare tr_rCompare fun ds r h=>by
 obtain⟨⟨x0,x1,x2,x3⟩,hds,hr⟩:=FF_inv h
 clear h
 subst hds
 obtain⟨hc,rfl⟩:=onlyIf_inv hr
 exact⟨Nat.le_of_ble_eq_true rfl,w_rCompare _ (mkTE_F rfl rfl) (mkTE_F rfl rfl) (mkTE_F rfl rfl) x0 x1 x2 x3 hc⟩
theorem tr_rGcd:trFunc Tryz.prog 164000 [] Tryz.f62=some { mf_ref04_Gcd with body:=erase mf_ref04_Gcd.body }:=by kernel_rfl
theorem nm_rGcd : (Tryz.f62.name == "runtime.NumGoroutine") = false := by kernel_rfl
theorem ps_rGcd:PSpec Tryz.prog id_ref04_Gcd F_rGcd:=pspec_of (mkTE_ok (PTl_ok (l:=[(id_ref04_Right,F_rRight),(id_ref04_over,F_rover),(id_ref04_made,F_rmade)]) (PTl_cons ps_rRight (PTl_cons ps_rover (PTl_cons ps_rmade PTl_nil)))) (ETl_ok (l:=[]) ETl_nil)) mixed Tryz.func62 nm_rGcd tr_rGcd fun ds r h=>by
 obtain⟨⟨x0,x1,x2,x3⟩,hds,hr⟩:=FF_inv h
 clear h
 subst hds
 obtain⟨hc,rfl⟩:=onlyIf_inv hr
 exact⟨Nat.le_of_ble_eq_true rfl,w_rGcd _ (mkTE_F rfl rfl) (mkTE_F rfl rfl) (mkTE_F rfl rfl) x0 x1 x2 x3 hc⟩
theorem tr_rMul:trFunc Tryz.prog 202000 [] Tryz.f53=some { mf_ref04_Mul with body:=erase mf_ref04_Mul.body }:=by kernel_rfl
theorem nm_rMul : (Tryz.f53.name == "runtime.NumGoroutine") = false := by kernel_rfl
theorem ps_rMul:PSpec Tryz.prog id_ref04_Mul F_rMul:=pspec_of (mkTE_ok (PTl_ok (l:=[(id_ref04_Right,F_rRight),(id_ref04_times,F_rtimes),(id_ref04_made,F_rmade),(id_ref04_kept,F_rkept)]) (PTl_cons ps_rRight (PTl_cons ps_rtimes (PTl_cons ps_rmade (PTl_cons ps_rkept PTl_nil))))) (ETl_ok (l:=[]) ETl_nil)) mixed Tryz.func53 nm_rMul tr_rMul fun ds r h=>by
 obtain⟨⟨x0,x1,x2,x3⟩,hds,hr⟩:=FF_inv h
 clear h
 subst hds
 obtain⟨hc,rfl⟩:=onlyIf_inv hr
 exact⟨Nat.le_of_ble_eq_true rfl,w_rMul _ (mkTE_F rfl rfl) (mkTE_F rfl rfl) (mkTE_F rfl rfl) (mkTE_F rfl rfl) x0 x1 x2 x3 hc⟩
theorem tr_rAdd:trFunc Tryz.prog 206000 [] Tryz.f70=some { mf_ref04_Add with body:=erase mf_ref04_Add.body }:=by kernel_rfl
theorem nm_rAdd : (Tryz.f70.name == "runtime.NumGoroutine") = false := by kernel_rfl
theorem ps_rAdd:PSpec Tryz.prog id_ref04_Add F_rAdd:=pspec_of (mkTE_ok (PTl_ok (l:=[(id_ref04_Right,F_rRight),(id_ref04_plus,F_rplus),(id_ref04_less,F_rless),(id_ref04_minus,F_rminus),(id_ref04_made,F_rmade),(id_ref04_kept,F_rkept)]) (PTl_cons ps_rRight (PTl_cons ps_rplus (PTl_cons ps_rless (PTl_cons ps_rminus (PTl_cons ps_rmade (PTl_cons ps_rkept PTl_nil))))))) (ETl_ok (l:=[]) ETl_nil)) mixed Tryz.func70 nm_rAdd tr_rAdd fun ds r h=>by
 obtain⟨⟨x0,x1,x2,x3⟩,hds,hr⟩:=FF_inv h
 clear h
 subst hds
 obtain⟨hc,rfl⟩:=onlyIf_inv hr
 exact⟨Nat.le_of_ble_eq_true rfl,w_rAdd _ (mkTE_F rfl rfl) (mkTE_F rfl rfl) (mkTE_F rfl rfl) (mkTE_F rfl rfl) (mkTE_F rfl rfl) (mkTE_F rfl rfl) x0 x1 x2 x3 hc⟩
theorem tr_rSub:trFunc Tryz.prog 203000 [] Tryz.f54=some { mf_ref04_Sub with body:=erase mf_ref04_Sub.body }:=by kernel_rfl
theorem nm_rSub : (Tryz.f54.name == "runtime.NumGoroutine") = false := by kernel_rfl
theorem ps_rSub:PSpec Tryz.prog id_ref04_Sub F_rSub:=pspec_of (mkTE_ok (PTl_ok (l:=[(id_ref04_Right,F_rRight),(id_ref04_Neg,F_rNeg),(id_ref04_Add,F_rAdd)]) (PTl_cons ps_rRight (PTl_cons ps_rNeg (PTl_cons ps_rAdd PTl_nil)))) (ETl_ok (l:=[]) ETl_nil)) mixed Tryz.func54 nm_rSub tr_rSub fun ds r h=>by
 obtain⟨⟨x0,x1,x2,x3⟩,hds,hr⟩:=FF_inv h
 clear h
 subst hds
 obtain⟨hc,rfl⟩:=onlyIf_inv hr
 exact⟨Nat.le_of_ble_eq_true rfl,w_rSub _ (mkTE_F rfl rfl) (mkTE_F rfl rfl) (mkTE_F rfl rfl) x0 x1 x2 x3 hc⟩
theorem tr_rDiv:trFunc Tryz.prog 165000 [] Tryz.f72=some { mf_ref04_Div with body:=erase mf_ref04_Div.body }:=by kernel_rfl
theorem nm_rDiv : (Tryz.f72.name == "runtime.NumGoroutine") = false := by kernel_rfl
theorem ps_rDiv:PSpec Tryz.prog id_ref04_Div F_rDiv:=pspec_of (mkTE_ok (PTl_ok (l:=[(id_ref04_Right,F_rRight),(id_ref04_over,F_rover),(id_ref04_plus,F_rplus),(id_ref04_minus,F_rminus),(id_ref04_made,F_rmade)]) (PTl_cons ps_rRight (PTl_cons ps_rover (PTl_cons ps_rplus (PTl_cons ps_rminus (PTl_cons ps_rmade PTl_nil)))))) (ETl_ok (l:=[]) ETl_nil)) mixed Tryz.func72 nm_rDiv tr_rDiv fun ds r h=>by
 obtain⟨⟨x0,x1,x2,x3⟩,hds,hr⟩:=FF_inv h
 clear h
 subst hds
 obtain⟨hc,rfl⟩:=onlyIf_inv hr
 exact⟨Nat.le_of_ble_eq_true rfl,w_rDiv _ (mkTE_F rfl rfl) (mkTE_F rfl rfl) (mkTE_F rfl rfl) (mkTE_F rfl rfl) (mkTE_F rfl rfl) x0 x1 x2 x3 hc⟩
theorem tr_gNew:trFunc Tryz.prog 143000 [] Tryz.f41=some { mf_ref05_New with body:=erase mf_ref05_New.body }:=by kernel_rfl
theorem nm_gNew : (Tryz.f41.name == "runtime.NumGoroutine") = false := by kernel_rfl
theorem ps_gNew:PSpec Tryz.prog id_ref05_New F_gNew:=pspec_of (mkTE_ok (PTl_ok (l:=[(id_ref04_Right,F_rRight),(id_ref04_Neg,F_rNeg),(id_ref04_Gcd,F_rGcd),(id_ref04_Div,F_rDiv)]) (PTl_cons ps_rRight (PTl_cons ps_rNeg (PTl_cons ps_rGcd (PTl_cons ps_rDiv PTl_nil))))) (ETl_ok (l:=[]) ETl_nil)) mixed Tryz.func41 nm_gNew tr_gNew fun ds r h=>by
 obtain⟨⟨x0,x1,x2,x3⟩,hds,hr⟩:=FF_inv h
 clear h
 subst hds
 obtain⟨hc,rfl⟩:=onlyIf_inv hr
 exact⟨Nat.le_of_ble_eq_true rfl,w_gNew _ (mkTE_F rfl rfl) (mkTE_F rfl rfl) (mkTE_F rfl rfl) (mkTE_F rfl rfl) x0 x1 x2 x3 hc⟩
theorem tr_gOf:trFunc Tryz.prog 124000 [] Tryz.f19=some { mf_ref05_Of with body:=erase mf_ref05_Of.body }:=by kernel_rfl
theorem nm_gOf : (Tryz.f19.name == "runtime.NumGoroutine") = false := by kernel_rfl
theorem ps_gOf:PSpec Tryz.prog id_ref05_Of F_gOf:=pspec_of (mkTE_ok (PTl_ok (l:=[(id_ref04_Of,F_rOf),(id_ref05_New,F_gNew)]) (PTl_cons ps_rOf (PTl_cons ps_gNew PTl_nil))) (ETl_ok (l:=[]) ETl_nil)) mixed Tryz.func19 nm_gOf tr_gOf fun ds r h=>by
 obtain⟨⟨x0,x1⟩,hds,hr⟩:=FF_inv h
 clear h
 subst hds
 obtain⟨hc,rfl⟩:=onlyIf_inv hr
 exact⟨Nat.le_of_ble_eq_true rfl,w_gOf _ (mkTE_F rfl rfl) (mkTE_F rfl rfl) x0 x1 hc⟩
theorem tr_gSameBig:trFunc Tryz.prog 142000 [] Tryz.f64=some { mf_ref05_SameBig with body:=erase mf_ref05_SameBig.body }:=by kernel_rfl
theorem nm_gSameBig : (Tryz.f64.name == "runtime.NumGoroutine") = false := by kernel_rfl
theorem ps_gSameBig:PSpec Tryz.prog id_ref05_SameBig F_gSameBig:=pspec_of (mkTE_ok (PTl_ok (l:=[]) PTl_nil) (ETl_ok (l:=[]) ETl_nil)) mixed Tryz.func64 nm_gSameBig tr_gSameBig fun ds r h=>by
 obtain⟨⟨x0,x1,x2,x3⟩,hds,hr⟩:=FF_inv h
 clear h
 subst hds
 obtain⟨hc,rfl⟩:=onlyIf_inv hr
 exact⟨Nat.le_of_ble_eq_true rfl,w_gSameBig _  x0 x1 x2 x3 hc⟩
theorem tr_gSame:trFunc Tryz.prog 120000 [] Tryz.f34=some { mf_ref05_Same with body:=erase mf_ref05_Same.body }:=by kernel_rfl
theorem nm_gSame : (Tryz.f34.name == "runtime.NumGoroutine") = false := by kernel_rfl
theorem ps_gSame:PSpec Tryz.prog id_ref05_Same F_gSame:=pspec_of (mkTE_ok (PTl_ok (l:=[(id_ref05_SameBig,F_gSameBig)]) (PTl_cons ps_gSameBig PTl_nil)) (ETl_ok (l:=[]) ETl_nil)) mixed Tryz.func34 nm_gSame tr_gSame fun ds r h=>by
 obtain⟨⟨x0,x1,x2,x3,x4,x5,x6,x7⟩,hds,hr⟩:=FF_inv h
 clear h
 subst hds
 obtain⟨hc,rfl⟩:=onlyIf_inv hr
 exact⟨Nat.le_of_ble_eq_true rfl,w_gSame _ (mkTE_F rfl rfl) x0 x1 x2 x3 x4 x5 x6 x7 hc⟩
theorem tr_gFew:trFunc Tryz.prog 115000 [] Tryz.f21=some { mf_ref05_Few with body:=erase mf_ref05_Few.body }:=by kernel_rfl
theorem nm_gFew : (Tryz.f21.name == "runtime.NumGoroutine") = false := by kernel_rfl
theorem ps_gFew:PSpec Tryz.prog id_ref05_Few F_gFew:=pspec_of (mkTE_ok (PTl_ok (l:=[]) PTl_nil) (ETl_ok (l:=[]) ETl_nil)) mixed Tryz.func21 nm_gFew tr_gFew fun ds r h=>by
 obtain⟨⟨x0,x1,x2,x3,x4⟩,hds,hr⟩:=FF_inv h
 clear h
 subst hds
 obtain rfl:=Option.some.inj hr
 exact⟨Nat.le_of_ble_eq_true rfl,w_gFew _  x0 x1 x2 x3 x4⟩
theorem tr_gRight:trFunc Tryz.prog 196000 [] Tryz.f33=some { mf_ref05_Right with body:=erase mf_ref05_Right.body }:=by kernel_rfl
theorem nm_gRight : (Tryz.f33.name == "runtime.NumGoroutine") = false := by kernel_rfl
theorem ps_gRight:PSpec Tryz.prog id_ref05_Right F_gRight:=pspec_of (mkTE_ok (PTl_ok (l:=[(id_ref04_Right,F_rRight),(id_ref04_Gcd,F_rGcd),(id_ref04_Of,F_rOf),(id_ref04_Compare,F_rCompare)]) (PTl_cons ps_rRight (PTl_cons ps_rGcd (PTl_cons ps_rOf (PTl_cons ps_rCompare PTl_nil))))) (ETl_ok (l:=[]) ETl_nil)) mixed Tryz.func33 nm_gRight tr_gRight fun ds r h=>by
 obtain⟨⟨x0,x1,x2,x3⟩,hds,hr⟩:=FF_inv h
 clear h
 subst hds
 obtain⟨hc,rfl⟩:=onlyIf_inv hr
 exact⟨Nat.le_of_ble_eq_true rfl,w_gRight _ (mkTE_F rfl rfl) (mkTE_F rfl rfl) (mkTE_F rfl rfl) (mkTE_F rfl rfl) x0 x1 x2 x3 hc⟩
theorem tr_gmade:trFunc Tryz.prog 204000 [] Tryz.f55=some { mf_ref05_made with body:=erase mf_ref05_made.body }:=by kernel_rfl
theorem nm_gmade : (Tryz.f55.name == "runtime.NumGoroutine") = false := by kernel_rfl
theorem ps_gmade:PSpec Tryz.prog id_ref05_made F_gmade:=pspec_of (mkTE_ok (PTl_ok (l:=[(id_ref05_New,F_gNew)]) (PTl_cons ps_gNew PTl_nil)) (ETl_ok (l:=[]) ETl_nil)) mixed Tryz.func55 nm_gmade tr_gmade fun ds r h=>by
 obtain⟨⟨x0,x1,x2,x3,x4⟩,hds,hr⟩:=FF_inv h
 clear h
 subst hds
 obtain⟨hc,rfl⟩:=onlyIf_inv hr
 exact⟨Nat.le_of_ble_eq_true rfl,w_gmade _ (mkTE_F rfl rfl) x0 x1 x2 x3 x4 hc⟩
theorem tr_gAdd:trFunc Tryz.prog 198000 [] Tryz.f40=some { mf_ref05_Add with body:=erase mf_ref05_Add.body }:=by kernel_rfl
theorem nm_gAdd : (Tryz.f40.name == "runtime.NumGoroutine") = false := by kernel_rfl
theorem ps_gAdd:PSpec Tryz.prog id_ref05_Add F_gAdd:=pspec_of (mkTE_ok (PTl_ok (l:=[(id_ref05_Right,F_gRight),(id_ref04_Mul,F_rMul),(id_ref04_Add,F_rAdd),(id_ref05_made,F_gmade)]) (PTl_cons ps_gRight (PTl_cons ps_rMul (PTl_cons ps_rAdd (PTl_cons ps_gmade PTl_nil))))) (ETl_ok (l:=[]) ETl_nil)) mixed Tryz.func40 nm_gAdd tr_gAdd fun ds r h=>by
 obtain⟨⟨x0,x1,x2,x3,x4,x5,x6,x7⟩,hds,hr⟩:=FF_inv h
 clear h
 subst hds
 obtain⟨hc,rfl⟩:=onlyIf_inv hr
 exact⟨Nat.le_of_ble_eq_true rfl,w_gAdd _ (mkTE_F rfl rfl) (mkTE_F rfl rfl) (mkTE_F rfl rfl) (mkTE_F rfl rfl) x0 x1 x2 x3 x4 x5 x6 x7 hc⟩
theorem tr_gSub:trFunc Tryz.prog 195000 [] Tryz.f27=some { mf_ref05_Sub with body:=erase mf_ref05_Sub.body }:=by kernel_rfl
theorem nm_gSub : (Tryz.f27.name == "runtime.NumGoroutine") = false := by kernel_rfl
theorem ps_gSub:PSpec Tryz.prog id_ref05_Sub F_gSub:=pspec_of (mkTE_ok (PTl_ok (l:=[(id_ref05_Right,F_gRight),(id_ref04_Mul,F_rMul),(id_ref04_Sub,F_rSub),(id_ref05_made,F_gmade)]) (PTl_cons ps_gRight (PTl_cons ps_rMul (PTl_cons ps_rSub (PTl_cons ps_gmade PTl_nil))))) (ETl_ok (l:=[]) ETl_nil)) mixed Tryz.func27 nm_gSub tr_gSub fun ds r h=>by
 obtain⟨⟨x0,x1,x2,x3,x4,x5,x6,x7⟩,hds,hr⟩:=FF_inv h
 clear h
 subst hds
 obtain⟨hc,rfl⟩:=onlyIf_inv hr
 exact⟨Nat.le_of_ble_eq_true rfl,w_gSub _ (mkTE_F rfl rfl) (mkTE_F rfl rfl) (mkTE_F rfl rfl) (mkTE_F rfl rfl) x0 x1 x2 x3 x4 x5 x6 x7 hc⟩
theorem tr_gMul:trFunc Tryz.prog 197000 [] Tryz.f39=some { mf_ref05_Mul with body:=erase mf_ref05_Mul.body }:=by kernel_rfl
theorem nm_gMul : (Tryz.f39.name == "runtime.NumGoroutine") = false := by kernel_rfl
theorem ps_gMul:PSpec Tryz.prog id_ref05_Mul F_gMul:=pspec_of (mkTE_ok (PTl_ok (l:=[(id_ref05_Right,F_gRight),(id_ref04_Mul,F_rMul),(id_ref05_made,F_gmade)]) (PTl_cons ps_gRight (PTl_cons ps_rMul (PTl_cons ps_gmade PTl_nil)))) (ETl_ok (l:=[]) ETl_nil)) mixed Tryz.func39 nm_gMul tr_gMul fun ds r h=>by
 obtain⟨⟨x0,x1,x2,x3,x4,x5,x6,x7⟩,hds,hr⟩:=FF_inv h
 clear h
 subst hds
 obtain⟨hc,rfl⟩:=onlyIf_inv hr
 exact⟨Nat.le_of_ble_eq_true rfl,w_gMul _ (mkTE_F rfl rfl) (mkTE_F rfl rfl) (mkTE_F rfl rfl) x0 x1 x2 x3 x4 x5 x6 x7 hc⟩
theorem tr_gDiv:trFunc Tryz.prog 207000 [] Tryz.f77=some { mf_ref05_Div with body:=erase mf_ref05_Div.body }:=by kernel_rfl
theorem nm_gDiv : (Tryz.f77.name == "runtime.NumGoroutine") = false := by kernel_rfl
theorem ps_gDiv:PSpec Tryz.prog id_ref05_Div F_gDiv:=pspec_of (mkTE_ok (PTl_ok (l:=[(id_ref05_Right,F_gRight),(id_ref04_Mul,F_rMul),(id_ref05_made,F_gmade)]) (PTl_cons ps_gRight (PTl_cons ps_rMul (PTl_cons ps_gmade PTl_nil)))) (ETl_ok (l:=[]) ETl_nil)) mixed Tryz.func77 nm_gDiv tr_gDiv fun ds r h=>by
 obtain⟨⟨x0,x1,x2,x3,x4,x5,x6,x7⟩,hds,hr⟩:=FF_inv h
 clear h
 subst hds
 obtain⟨hc,rfl⟩:=onlyIf_inv hr
 exact⟨Nat.le_of_ble_eq_true rfl,w_gDiv _ (mkTE_F rfl rfl) (mkTE_F rfl rfl) (mkTE_F rfl rfl) x0 x1 x2 x3 x4 x5 x6 x7 hc⟩
theorem tr_hZero:trFunc Tryz.prog 113000 [] Tryz.f46=some { mf_ref06_Zero with body:=erase mf_ref06_Zero.body }:=by kernel_rfl
theorem nm_hZero : (Tryz.f46.name == "runtime.NumGoroutine") = false := by kernel_rfl
theorem ps_hZero:PSpec Tryz.prog id_ref06_Zero F_hZero:=pspec_of (mkTE_ok (PTl_ok (l:=[]) PTl_nil) (ETl_ok (l:=[]) ETl_nil)) mixed Tryz.func46 nm_hZero tr_hZero fun ds r h=>by
 obtain⟨⟨x0,x1,x2,x3⟩,hds,hr⟩:=FF_inv h
 clear h
 subst hds
 obtain rfl:=Option.some.inj hr
 exact⟨Nat.le_of_ble_eq_true rfl,w_hZero _  x0 x1 x2 x3⟩
theorem tr_hFewFracs:trFunc Tryz.prog 107000 [] Tryz.f6=some { mf_ref06_FewFracs with body:=erase mf_ref06_FewFracs.body }:=by kernel_rfl
theorem nm_hFewFracs : (Tryz.f6.name == "runtime.NumGoroutine") = false := by kernel_rfl
theorem ps_hFewFracs:PSpec Tryz.prog id_ref06_FewFracs F_hFewFracs:=pspec_of (mkTE_ok (PTl_ok (l:=[(id_ref05_Few,F_gFew)]) (PTl_cons ps_gFew PTl_nil)) (ETl_ok (l:=[]) ETl_nil)) mixed Tryz.func6 nm_hFewFracs tr_hFewFracs fun ds r h=>by
 obtain⟨⟨x0,x1,x2⟩,hds,hr⟩:=FF_inv h
 clear h
 subst hds
 obtain⟨hc,rfl⟩:=onlyIf_inv hr
 exact⟨Nat.le_of_ble_eq_true rfl,w_hFewFracs _ (mkTE_F rfl rfl) x0 x1 x2 hc⟩
theorem tr_hFew:trFunc Tryz.prog 106000 [] Tryz.f5=some { mf_ref06_Few with body:=erase mf_ref06_Few.body }:=by kernel_rfl
theorem nm_hFew : (Tryz.f5.name == "runtime.NumGoroutine") = false := by kernel_rfl
theorem ps_hFew:PSpec Tryz.prog id_ref06_Few F_hFew:=pspec_of (mkTE_ok (PTl_ok (l:=[(id_ref06_FewFracs,F_hFewFracs),(id_ref05_Few,F_gFew)]) (PTl_cons ps_hFewFracs (PTl_cons ps_gFew PTl_nil))) (ETl_ok (l:=[]) ETl_nil)) mixed Tryz.func5 nm_hFew tr_hFew fun ds r h=>by
 obtain⟨⟨x0,x1,x2⟩,hds,hr⟩:=FF_inv h
 clear h
 subst hds
 obtain⟨hc,rfl⟩:=onlyIf_inv hr
 exact⟨Nat.le_of_ble_eq_true rfl,w_hFew _ (mkTE_F rfl rfl) (mkTE_F rfl rfl) x0 x1 x2 hc⟩
theorem tr_hSame:trFunc Tryz.prog 112000 [] Tryz.f15=some { mf_ref06_Same with body:=erase mf_ref06_Same.body }:=by kernel_rfl
theorem nm_hSame : (Tryz.f15.name == "runtime.NumGoroutine") = false := by kernel_rfl
theorem ps_hSame:PSpec Tryz.prog id_ref06_Same F_hSame:=pspec_of (mkTE_ok (PTl_ok (l:=[(id_ref05_Same,F_gSame)]) (PTl_cons ps_gSame PTl_nil)) (ETl_ok (l:=[]) ETl_nil)) mixed Tryz.func15 nm_hSame tr_hSame fun ds r h=>by
 obtain⟨⟨x0,x1⟩,hds,hr⟩:=FF_inv h
 clear h
 subst hds
 obtain⟨hc,rfl⟩:=onlyIf_inv hr
 exact⟨Nat.le_of_ble_eq_true rfl,w_hSame _ (mkTE_F rfl rfl) x0 x1 hc⟩
theorem tr_wnum:trFunc Tryz.prog 122000 [] Tryz.f20=some { mf_law06_number with body:=erase mf_law06_number.body }:=by kernel_rfl
theorem nm_wnum : (Tryz.f20.name == "runtime.NumGoroutine") = false := by kernel_rfl
theorem ps_wnum:PSpec Tryz.prog id_law06_number F_wnum:=pspec_of (mkTE_ok (PTl_ok (l:=[(id_ref05_Of,F_gOf)]) (PTl_cons ps_gOf PTl_nil)) (ETl_ok (l:=[]) ETl_nil)) mixed Tryz.func20 nm_wnum tr_wnum fun ds r h=>by
 obtain⟨x0,hds,hr⟩:=FF_inv h
 clear h
 subst hds
 obtain⟨hc,rfl⟩:=onlyIf_inv hr
 exact⟨Nat.le_of_ble_eq_true rfl,w_wnum _ (mkTE_F rfl rfl) x0 hc⟩
theorem tr_wrow:trFunc Tryz.prog 123000 [] Tryz.f18=some { mf_law06_row with body:=erase mf_law06_row.body }:=by kernel_rfl
theorem nm_wrow : (Tryz.f18.name == "runtime.NumGoroutine") = false := by kernel_rfl
theorem ps_wrow:PSpec Tryz.prog id_law06_row F_wrow:=pspec_of (mkTE_ok (PTl_ok (l:=[(id_law06_number,F_wnum)]) (PTl_cons ps_wnum PTl_nil)) (ETl_ok (l:=[]) ETl_nil)) mixed Tryz.func18 nm_wrow tr_wrow fun ds r h=>by
 obtain⟨x0,hds,hr⟩:=FF_inv h
 clear h
 subst hds
 obtain⟨hc,rfl⟩:=onlyIf_inv hr
 exact⟨Nat.le_of_ble_eq_true rfl,w_wrow _ (mkTE_F rfl rfl) x0 hc⟩
theorem tr_wsmall:trFunc Tryz.prog 105000 [] Tryz.f4=some { mf_law06_small with body:=erase mf_law06_small.body }:=by kernel_rfl
theorem nm_wsmall : (Tryz.f4.name == "runtime.NumGoroutine") = false := by kernel_rfl
theorem ps_wsmall:PSpec Tryz.prog id_law06_small F_wsmall:=pspec_of (mkTE_ok (PTl_ok (l:=[(id_law06_row,F_wrow),(id_law06_number,F_wnum),(id_linear_Solve,F_linSolve),(id_linear_Kernel,F_linKern),(id_linear_Rank,F_linRank),(id_linear_Check,F_linCheck),(id_linear_Right,F_linRight),(id_ref05_Of,F_gOf),(id_ref06_Same,F_hSame)]) (PTl_cons ps_wrow (PTl_cons ps_wnum (PTl_cons ps_linSolve (PTl_cons ps_linKern (PTl_cons ps_linRank (PTl_cons ps_linCheck (PTl_cons ps_linRight (PTl_cons ps_gOf (PTl_cons ps_hSame PTl_nil)))))))))) (ETl_ok (l:=[]) ETl_nil)) mixed Tryz.func4 nm_wsmall tr_wsmall fun ds r h=>by
 obtain⟨_,hds,hr⟩:=FF_inv h
 clear h
 subst hds
 obtain rfl:=Option.some.inj hr
 exact⟨Nat.le_of_ble_eq_true rfl,w_wsmall _ (mkTE_F rfl rfl) (mkTE_F rfl rfl) (mkTE_F rfl rfl) (mkTE_F rfl rfl) (mkTE_F rfl rfl) (mkTE_F rfl rfl) (mkTE_F rfl rfl) (mkTE_F rfl rfl) (mkTE_F rfl rfl) ⟩
theorem tr_eRight:trFunc Tryz.prog 192000 [] Tryz.f14=some { mf_ref06_Right with body:=erase mf_ref06_Right.body }:=by kernel_rfl
theorem nm_eRight : (Tryz.f14.name == "runtime.NumGoroutine") = false := by kernel_rfl
theorem ps_eRight:PSpec Tryz.prog id_ref06_Right F_eRight:=pspec_of (mkTE_ok (PTl_ok (l:=[(id_ref05_Right,F_gRight)]) (PTl_cons ps_gRight PTl_nil)) (ETl_ok (l:=[]) ETl_nil)) mixed Tryz.func14 nm_eRight tr_eRight fun ds r h=>by
 obtain⟨⟨x0,x1⟩,hds,hr⟩:=FF_inv h
 clear h
 subst hds
 obtain⟨hc,rfl⟩:=onlyIf_inv hr
 exact⟨Nat.le_of_ble_eq_true rfl,w_eRight _ (mkTE_F rfl rfl) x0 x1 hc⟩
theorem tr_eless:trFunc Tryz.prog 208000 [] Tryz.f78=some { mf_ref06_less with body:=erase mf_ref06_less.body }:=by kernel_rfl
theorem nm_eless : (Tryz.f78.name == "runtime.NumGoroutine") = false := by kernel_rfl
theorem ps_eless:PSpec Tryz.prog id_ref06_less F_eless:=pspec_of (mkTE_ok (PTl_ok (l:=[(id_ref05_Mul,F_gMul),(id_ref05_Sub,F_gSub)]) (PTl_cons ps_gMul (PTl_cons ps_gSub PTl_nil))) (ETl_ok (l:=[]) ETl_nil)) mixed Tryz.func78 nm_eless tr_eless fun ds r h=>by
 obtain⟨⟨x0,x1,x2⟩,hds,hr⟩:=FF_inv h
 clear h
 subst hds
 obtain⟨hc,rfl⟩:=onlyIf_inv hr
 exact⟨Nat.le_of_ble_eq_true rfl,w_eless _ (mkTE_F rfl rfl) (mkTE_F rfl rfl) x0 x1 x2 hc⟩
theorem tr_ecopied:trFunc Tryz.prog 199000 [12,25] Tryz.f45=some { mf_ref06_Copied with body:=erase mf_ref06_Copied.body }:=by kernel_rfl
theorem nm_ecopied : (Tryz.f45.name == "runtime.NumGoroutine") = false := by kernel_rfl
theorem ps_ecopied:PSpec Tryz.prog id_ref06_Copied F_ecopied:=pspec_of (mkTE_ok (PTl_ok (l:=[]) PTl_nil) (ETl_ok (l:=[]) ETl_nil)) mixed Tryz.func45 nm_ecopied tr_ecopied fun ds r h=>by
 obtain⟨x0,hds,hr⟩:=FF_inv h
 clear h
 subst hds
 obtain⟨hc,rfl⟩:=onlyIf_inv hr
 exact⟨Nat.le_of_ble_eq_true rfl,w_ecopied _  x0 hc⟩
theorem tr_edivided:trFunc Tryz.prog 200000 [20] Tryz.f47=some { mf_ref06_divided with body:=erase mf_ref06_divided.body }:=by kernel_rfl
theorem nm_edivided : (Tryz.f47.name == "runtime.NumGoroutine") = false := by kernel_rfl
theorem ps_edivided:PSpec Tryz.prog id_ref06_divided F_edivided:=pspec_of (mkTE_ok (PTl_ok (l:=[(id_ref05_Div,F_gDiv)]) (PTl_cons ps_gDiv PTl_nil)) (ETl_ok (l:=[]) ETl_nil)) mixed Tryz.func47 nm_edivided tr_edivided fun ds r h=>by
 obtain⟨⟨x0,x1⟩,hds,hr⟩:=FF_inv h
 clear h
 subst hds
 obtain⟨hc,rfl⟩:=onlyIf_inv hr
 exact⟨Nat.le_of_ble_eq_true rfl,w_edivided _ (mkTE_F rfl rfl) x0 x1 hc⟩
theorem tr_ereduced:trFunc Tryz.prog 201000 [22] Tryz.f48=some { mf_ref06_reduced with body:=erase mf_ref06_reduced.body }:=by kernel_rfl
theorem nm_ereduced : (Tryz.f48.name == "runtime.NumGoroutine") = false := by kernel_rfl
theorem ps_ereduced:PSpec Tryz.prog id_ref06_reduced F_ereduced:=pspec_of (mkTE_ok (PTl_ok (l:=[(id_ref06_less,F_eless)]) (PTl_cons ps_eless PTl_nil)) (ETl_ok (l:=[]) ETl_nil)) mixed Tryz.func48 nm_ereduced tr_ereduced fun ds r h=>by
 obtain⟨⟨x0,x1,x2⟩,hds,hr⟩:=FF_inv h
 clear h
 subst hds
 obtain⟨hc,rfl⟩:=onlyIf_inv hr
 exact⟨Nat.le_of_ble_eq_true rfl,w_ereduced _ (mkTE_F rfl rfl) x0 x1 x2 hc⟩
theorem tr_eelim:trFunc Tryz.prog 194000 [21] Tryz.f23=some { mf_ref06_Eliminated with body:=erase mf_ref06_Eliminated.body }:=by kernel_rfl
theorem nm_eelim : (Tryz.f23.name == "runtime.NumGoroutine") = false := by kernel_rfl
theorem ps_eelim:PSpec Tryz.prog id_ref06_Eliminated F_eelim:=pspec_of (mkTE_ok (PTl_ok (l:=[(id_ref06_Copied,F_ecopied),(id_ref06_Zero,F_hZero),(id_ref06_divided,F_edivided),(id_ref06_reduced,F_ereduced)]) (PTl_cons ps_ecopied (PTl_cons ps_hZero (PTl_cons ps_edivided (PTl_cons ps_ereduced PTl_nil))))) (ETl_ok (l:=[]) ETl_nil)) mixed Tryz.func23 nm_eelim tr_eelim fun ds r h=>by
 obtain⟨⟨x0,x1⟩,hds,hr⟩:=FF_inv h
 clear h
 subst hds
 obtain⟨hc,rfl⟩:=onlyIf_inv hr
 exact⟨Nat.le_of_ble_eq_true rfl,w_eelim _ (mkTE_F rfl rfl) (mkTE_F rfl rfl) (mkTE_F rfl rfl) (mkTE_F rfl rfl) x0 x1 hc⟩
theorem tr_erank:trFunc Tryz.prog 191000 [] Tryz.f12=some { mf_ref06_Rank with body:=erase mf_ref06_Rank.body }:=by kernel_rfl
theorem nm_erank : (Tryz.f12.name == "runtime.NumGoroutine") = false := by kernel_rfl
theorem ps_erank:PSpec Tryz.prog id_ref06_Rank F_erank:=pspec_of (mkTE_ok (PTl_ok (l:=[(id_ref06_Right,F_eRight),(id_ref06_Eliminated,F_eelim)]) (PTl_cons ps_eRight (PTl_cons ps_eelim PTl_nil))) (ETl_ok (l:=[]) ETl_nil)) mixed Tryz.func12 nm_erank tr_erank fun ds r h=>by
 obtain⟨⟨x0,x1⟩,hds,hr⟩:=FF_inv h
 clear h
 subst hds
 obtain⟨hc,rfl⟩:=onlyIf_inv hr
 exact⟨Nat.le_of_ble_eq_true rfl,w_erank _ (mkTE_F rfl rfl) (mkTE_F rfl rfl) x0 x1 hc⟩
theorem tr_esolve:trFunc Tryz.prog 189000 [] Tryz.f8=some { mf_ref06_Solve with body:=erase mf_ref06_Solve.body }:=by kernel_rfl
theorem nm_esolve : (Tryz.f8.name == "runtime.NumGoroutine") = false := by kernel_rfl
theorem ps_esolve:PSpec Tryz.prog id_ref06_Solve F_esolve:=pspec_of (mkTE_ok (PTl_ok (l:=[(id_ref06_Right,F_eRight),(id_ref06_Eliminated,F_eelim)]) (PTl_cons ps_eRight (PTl_cons ps_eelim PTl_nil))) (ETl_ok (l:=[]) ETl_nil)) mixed Tryz.func8 nm_esolve tr_esolve fun ds r h=>by
 obtain⟨⟨x0,x1⟩,hds,hr⟩:=FF_inv h
 clear h
 subst hds
 obtain⟨hc,rfl⟩:=onlyIf_inv hr
 exact⟨Nat.le_of_ble_eq_true rfl,w_esolve _ (mkTE_F rfl rfl) (mkTE_F rfl rfl) x0 x1 hc⟩
theorem tr_ekern:trFunc Tryz.prog 190000 [] Tryz.f10=some { mf_ref06_Kernel with body:=erase mf_ref06_Kernel.body }:=by kernel_rfl
theorem nm_ekern : (Tryz.f10.name == "runtime.NumGoroutine") = false := by kernel_rfl
theorem ps_ekern:PSpec Tryz.prog id_ref06_Kernel F_ekern:=pspec_of (mkTE_ok (PTl_ok (l:=[(id_ref06_Right,F_eRight),(id_ref06_Eliminated,F_eelim),(id_ref05_Of,F_gOf),(id_ref05_Sub,F_gSub)]) (PTl_cons ps_eRight (PTl_cons ps_eelim (PTl_cons ps_gOf (PTl_cons ps_gSub PTl_nil))))) (ETl_ok (l:=[]) ETl_nil)) mixed Tryz.func10 nm_ekern tr_ekern fun ds r h=>by
 obtain⟨⟨x0,x1⟩,hds,hr⟩:=FF_inv h
 clear h
 subst hds
 obtain⟨hc,rfl⟩:=onlyIf_inv hr
 exact⟨Nat.le_of_ble_eq_true rfl,w_ekern _ (mkTE_F rfl rfl) (mkTE_F rfl rfl) (mkTE_F rfl rfl) (mkTE_F rfl rfl) x0 x1 hc⟩
theorem tr_echeck:trFunc Tryz.prog 193000 [] Tryz.f17=some { mf_ref06_Check with body:=erase mf_ref06_Check.body }:=by kernel_rfl
theorem nm_echeck : (Tryz.f17.name == "runtime.NumGoroutine") = false := by kernel_rfl
theorem ps_echeck:PSpec Tryz.prog id_ref06_Check F_echeck:=pspec_of (mkTE_ok (PTl_ok (l:=[(id_ref06_Right,F_eRight),(id_ref05_Right,F_gRight),(id_ref05_Of,F_gOf),(id_ref05_Mul,F_gMul),(id_ref05_Add,F_gAdd),(id_ref05_Same,F_gSame)]) (PTl_cons ps_eRight (PTl_cons ps_gRight (PTl_cons ps_gOf (PTl_cons ps_gMul (PTl_cons ps_gAdd (PTl_cons ps_gSame PTl_nil))))))) (ETl_ok (l:=[]) ETl_nil)) mixed Tryz.func17 nm_echeck tr_echeck fun ds r h=>by
 obtain⟨⟨x0,x1,x2⟩,hds,hr⟩:=FF_inv h
 clear h
 subst hds
 obtain⟨hc,rfl⟩:=onlyIf_inv hr
 exact⟨Nat.le_of_ble_eq_true rfl,w_echeck _ (mkTE_F rfl rfl) (mkTE_F rfl rfl) (mkTE_F rfl rfl) (mkTE_F rfl rfl) (mkTE_F rfl rfl) (mkTE_F rfl rfl) x0 x1 x2 hc⟩
theorem tr_wTells:trFunc Tryz.prog 188000 [] Tryz.f3=some { mf_law06_LinearTells with body:=erase mf_law06_LinearTells.body }:=by kernel_rfl
theorem nm_wTells : (Tryz.f3.name == "runtime.NumGoroutine") = false := by kernel_rfl
theorem ps_wTells:PSpec Tryz.prog id_law06_LinearTells F_wTells:=pspec_of (mkTE_ok (PTl_ok (l:=[(id_law06_small,F_wsmall),(id_ref06_Few,F_hFew),(id_ref06_FewFracs,F_hFewFracs),(id_linear_Right,F_linRight),(id_linear_Solve,F_linSolve),(id_linear_Kernel,F_linKern),(id_linear_Rank,F_linRank),(id_linear_Check,F_linCheck),(id_ref06_Right,F_eRight),(id_ref06_Solve,F_esolve),(id_ref06_Kernel,F_ekern),(id_ref06_Rank,F_erank),(id_ref06_Check,F_echeck),(id_ref06_Same,F_hSame)]) (PTl_cons ps_wsmall (PTl_cons ps_hFew (PTl_cons ps_hFewFracs (PTl_cons ps_linRight (PTl_cons ps_linSolve (PTl_cons ps_linKern (PTl_cons ps_linRank (PTl_cons ps_linCheck (PTl_cons ps_eRight (PTl_cons ps_esolve (PTl_cons ps_ekern (PTl_cons ps_erank (PTl_cons ps_echeck (PTl_cons ps_hSame PTl_nil))))))))))))))) (ETl_ok (l:=[]) ETl_nil)) mixed Tryz.func3 nm_wTells tr_wTells fun ds r h=>by
 obtain⟨⟨x0,x1,x2⟩,hds,hr⟩:=FF_inv h
 clear h
 subst hds
 obtain rfl:=Option.some.inj hr
 exact⟨Nat.le_of_ble_eq_true rfl,w_wTells _ (mkTE_F rfl rfl) (mkTE_F rfl rfl) (mkTE_F rfl rfl) (mkTE_F rfl rfl) (mkTE_F rfl rfl) (mkTE_F rfl rfl) (mkTE_F rfl rfl) (mkTE_F rfl rfl) (mkTE_F rfl rfl) (mkTE_F rfl rfl) (mkTE_F rfl rfl) (mkTE_F rfl rfl) (mkTE_F rfl rfl) (mkTE_F rfl rfl) x0 x1 x2⟩
end Go.Mini
