/- A part of the proof: MiniLw1, MiniLw2, MiniLw3, MiniLw4, MiniPsOnly1, MiniPsOnly2, MiniLm1, MiniLm2, MiniLm3, MiniLm4. -/
import Derived.Test.YtjcpopjafedmpaaM09
import Derived.Test.YtjcpopjafedmpaaM10
import Derived.Test.YtjcpopjafedmpaaProg
import Derived.KernelRfl
import Derived.Test.YtjcpopjafedmpaaM03
set_option linter.unusedSimpArgs false
set_option linter.unusedVariables false
namespace Go.Mini
open Go
set_option maxRecDepth 10000
set_option maxHeartbeats 4000000
def numF (n:Int):FRaw:=encR (n:Rat)
theorem newR_num {n:Int} (h:i64R n):newR (encB n) (encB 1) = (numF n,0):=by
  rw [newR_enc (lim_i64 h) (lim_i64 (by unfold i64R; omega)) (by omega)]
  exact Prod.ext (congrArg encR (Rat.num_divInt_den (n:Rat))) rfl
theorem numF_len {n:Int} (h:i64R n):(numF n).1.2.length ≤ 1000000 ∧ (numF n).2.2.length ≤ 1000000:=by
  have h1:=newR_num h
  have h2:=okF_new (encB n) (encB 1)
  rw [h1] at h2
  exact h2
theorem okF_num {n:Int} (h:i64R n):okF (numF n):=numF_len h
noncomputable def F_wnum:List Data → Option PRes:=FF (α:=Int) (fun (n:Int) => ([.int .i64 n]:List Data)) (fun (n:Int) => onlyIf (i64R n) (.same (.agg (fracL (numF n)))))
theorem F_wnum_inj:∀ a b:Int,(fun (n:Int) => ([.int .i64 n]:List Data)) a = (fun (n:Int) => ([.int .i64 n]:List Data)) b → a = b:=by
    intro n1 n2 h
    simp only [List.cons.injEq,Data.int.injEq,Data.agg.injEq,Data.sl.injEq,Data.bool.injEq,Data.str.injEq,Data.ptr.injEq,Data.tup.injEq,Prod.mk.injEq,true_and,and_true] at h ⊢
    first | exact h | simpa [Prod.ext_iff,and_assoc] using h | grind
@[go_sem] theorem F_wnum_eq (n:Int) (hc:i64R n):F_wnum [.int .i64 n] = some (.same (.agg (fracL (numF n)))):=(FF_eq F_wnum_inj n).trans (onlyIf_pos hc _)
theorem w_wnum (T:Tab) (h_gOf:T id_ref05_Of = mkE F_gOf) (n:Int) (hc:i64R n) :
    wp T mf_law06_number.body (endS mf_law06_number.res (.same (.agg (fracL (numF n))))) ⟨initTm [.dat (.int .i64 n)],emp⟩:=by
  refine wp_start ?_
  simp only [mf_law06_number]
  have h1:i64R 1:=by unfold i64R; omega
  have hF:=F_gOf_eq n 1 ⟨hc,h1⟩
  rw [newR_num hc] at hF
  simp only [fracE,fracL] at hF
  simp only [go_sem,reduceIte,Nat.reduceEqDiff,Nat.reduceAdd,Nat.reduceSub,Nat.reduceMul,Nat.reduceLeDiff,Bool.false_eq_true,reduceCtorEq,Nat.reduceLT,Nat.reduceBEq,Int.reduceEq,h_gOf,hF,fracL]
  repeat' (first | refine wpG_not ?_ ?_ | refine wpG_yes ?_ ?_ | refine wpB_not ?_ ?_ | refine wpB_yes ?_ ?_ | refine wpGD_not ?_ ?_ | refine wpGD_yes ?_ ?_) <;> intro h <;> simp only [h,go_sem,reduceIte,Nat.reduceEqDiff,Nat.reduceAdd,Nat.reduceSub,Nat.reduceMul,Nat.reduceLeDiff,Bool.false_eq_true,reduceCtorEq,Nat.reduceLT,Nat.reduceBEq,Int.reduceEq,h_gOf,hF,fracL]
def rowOf (l:List Int):RowD:=(l.dropLast.map numF,numF (l.getLastD 0))
theorem rowOf_at {l:List Int} {i:Nat} {x:Int} (hx:l[i]? = some x) (h:i + 1 < l.length):(l.take (i + 1)).map numF = (l.take i).map numF ++ [numF x]:=by
  rw [List.take_add_one,hx,List.map_append]
  rfl
noncomputable def F_wrow:List Data → Option PRes:=FF (α:=List Int) (fun (l:List Int) => ([.sl (l.map i64L)]:List Data)) (fun (l:List Int) => onlyIf (2 ≤ l.length ∧ l.length ≤ 1000 ∧ ∀ x ∈ l,i64R x) (.same (.agg (rowL (rowOf l)))))
theorem F_wrow_inj:∀ a b:List Int,(fun (l:List Int) => ([.sl (l.map i64L)]:List Data)) a = (fun (l:List Int) => ([.sl (l.map i64L)]:List Data)) b → a = b:=by
    intro l1 l2 h
    exact map_inj i64L_inj _ _ (by simpa using h)
@[go_sem] theorem F_wrow_eq (l:List Int) (hc:2 ≤ l.length ∧ l.length ≤ 1000 ∧ ∀ x ∈ l,i64R x):F_wrow [.sl (l.map i64L)] = some (.same (.agg (rowL (rowOf l)))):=(FF_eq F_wrow_inj l).trans (onlyIf_pos hc _)
theorem w_wrow (T:Tab) (h_wnum:T id_law06_number = mkE F_wnum) (l:List Int) (hc:2 ≤ l.length ∧ l.length ≤ 1000 ∧ ∀ x ∈ l,i64R x) :
    wp T mf_law06_row.body (endS mf_law06_row.res (.same (.agg (rowL (rowOf l))))) ⟨initTm [.dat (.sl (l.map i64L))],emp⟩:=by
  refine wp_start ?_
  simp only [mf_law06_row]
  obtain ⟨hl,hlm,hlr⟩:=hc
  have hw0:IntKind.i64.wrap ((l.length:Int) - 1) = ((l.length - 1:Nat):Int):=by rw [wrap64 _ (by omega) (by omega)]; omega
  simp only [go_sem,reduceIte,Nat.reduceEqDiff,Nat.reduceAdd,Nat.reduceSub,Nat.reduceMul,Nat.reduceLeDiff,Bool.false_eq_true,reduceCtorEq,Nat.reduceLT,Nat.reduceBEq,Int.reduceEq,h_wnum,List.length_map]
  refine wp_loop_keep [0,2,3] [123002] (fun ((i,g):Nat × Nat) tm mem => i ≤ l.length - 1 ∧ tm 4 = .dat (.int .i64 i) ∧ (i = 0 → mem 123003 = some (0,[.nil,.dat (.int .i64 0),.nil,.dat (.int .i64 0),.nil])) ∧ (0 < i → mem 123003 = some (0,[.ref 123020 g 4 0 i,.dat (.int .i64 0),.nil,.dat (.int .i64 0),.nil]) ∧ mem 123020 = some (g,rowE fracL ((l.take i).map numF)))) (fun (i,_) => l.length - 1 - i) (0,0) (by refine ⟨Nat.zero_le _,rfl,fun _ => rfl,fun h => absurd h (by omega)⟩) ?_
  intro vs ms hvs hms
  simp only [go_sem,reduceIte,Nat.reduceEqDiff,Nat.reduceAdd,Nat.reduceSub,Nat.reduceMul,Nat.reduceLeDiff,Bool.false_eq_true,reduceCtorEq,Nat.reduceLT,Nat.reduceBEq,Int.reduceEq,h_wnum,List.length_map] at hvs hms
  subst hvs hms
  rintro ⟨i,g⟩ tm mem hk hm ⟨hi,h4,hz,hp⟩
  simp only [go_sem,reduceIte,Nat.reduceEqDiff,Nat.reduceAdd,Nat.reduceSub,Nat.reduceMul,Nat.reduceLeDiff,Bool.false_eq_true,reduceCtorEq,Nat.reduceLT,Nat.reduceBEq,Int.reduceEq,h_wnum,List.cons.injEq] at hk hm
  obtain ⟨h0,h2,h3⟩:=hk
  rcases Decidable.em (i < l.length - 1) with hlt | hge
  · obtain ⟨x,hx⟩:∃ x,l[i]? = some x:=⟨_,List.getElem?_eq_getElem (by omega)⟩
    have hxr:i64R x:=hlr x (List.mem_of_getElem? hx)
    have d1:decide ((i:Int) < ((l.length - 1:Nat):Int)) = true:=decide_eq_true (by omega)
    have w3:IntKind.i64.wrap ((i:Int) + 1) = ((i + 1:Nat):Int):=by rw [wrap64 _ (by omega) (by omega)]; omega
    have hmx:(1 ≤ maxLen) = True:=eq_true (by unfold maxLen; omega)
    have hnx:=rowOf_at hx (by omega)
    rcases hnf:numF x with ⟨⟨a,b⟩,⟨c,d⟩⟩
    rw [hnf] at hnx
    rcases Nat.eq_zero_or_pos i with h0' | hpos
    · have hm3:=hz h0'
      have hnx0:=hnx
      rw [h0'] at hnx0
      simp only [List.take_zero,List.map_nil,List.nil_append] at hnx0
      simp only [go_sem,reduceIte,Nat.reduceEqDiff,Nat.reduceAdd,Nat.reduceSub,Nat.reduceMul,Nat.reduceLeDiff,Bool.false_eq_true,reduceCtorEq,Nat.reduceLT,Nat.reduceBEq,Int.reduceEq,h_wnum,h0,h2,h3,h4,hm,hm3,hx,hxr,hnf,d1,w3,hw0,hmx,fracL,i64L,List.length_map,List.getElem?_map]
      repeat' (first | refine wpG_not ?_ ?_ | refine wpG_yes ?_ ?_ | refine wpB_not ?_ ?_ | refine wpB_yes ?_ ?_ | refine wpGD_not ?_ ?_ | refine wpGD_yes ?_ ?_) <;> intro h <;> simp only [h,go_sem,reduceIte,Nat.reduceEqDiff,Nat.reduceAdd,Nat.reduceSub,Nat.reduceMul,Nat.reduceLeDiff,Bool.false_eq_true,reduceCtorEq,Nat.reduceLT,Nat.reduceBEq,Int.reduceEq,h_wnum,h0,h2,h3,h4,hm,hm3,hx,hxr,hnf,d1,w3,hw0,hmx,fracL,i64L,List.length_map,List.getElem?_map]
      exact ⟨(i + 1,nextO (mem 123020)),by dsimp only; omega,by dsimp only; omega,rfl,fun h => by dsimp only at h; omega,fun _ => ⟨by rw [h0'],by dsimp only; rw [h0',hnx0]; rfl⟩⟩
    · obtain ⟨hm3,hm20⟩:=hp hpos
      have htl:((l.take i).map numF).length = i:=by rw [List.length_map,List.length_take]; omega
      have hap:=app_row fracL_len fracL_one 123020 g 64 ((l.take i).map numF) ((a,b),(c,d)) (cs:=[.dat (.int .i64 a),.dat (.sl (b.map i64L)),.dat (.int .i64 c),.dat (.sl (d.map i64L))]) rfl (by omega) (by omega)
      rw [htl,← hnx] at hap
      simp only [go_sem,reduceIte,Nat.reduceEqDiff,Nat.reduceAdd,Nat.reduceSub,Nat.reduceMul,Nat.reduceLeDiff,Bool.false_eq_true,reduceCtorEq,Nat.reduceLT,Nat.reduceBEq,Int.reduceEq,h_wnum,h0,h2,h3,h4,hm,hm3,hm20,hx,hxr,hnf,d1,w3,hw0,hmx,hap,fracL,i64L,List.length_map,List.getElem?_map]
      repeat' (first | refine wpG_not ?_ ?_ | refine wpG_yes ?_ ?_ | refine wpB_not ?_ ?_ | refine wpB_yes ?_ ?_ | refine wpGD_not ?_ ?_ | refine wpGD_yes ?_ ?_) <;> intro h <;> simp only [h,go_sem,reduceIte,Nat.reduceEqDiff,Nat.reduceAdd,Nat.reduceSub,Nat.reduceMul,Nat.reduceLeDiff,Bool.false_eq_true,reduceCtorEq,Nat.reduceLT,Nat.reduceBEq,Int.reduceEq,h_wnum,h0,h2,h3,h4,hm,hm3,hm20,hx,hxr,hnf,d1,w3,hw0,hmx,hap,fracL,i64L,List.length_map,List.getElem?_map]
      exact ⟨(i + 1,g + 1),by dsimp only; omega,by dsimp only; omega,rfl,fun h => by dsimp only at h; omega,fun _ => ⟨rfl,rfl⟩⟩
  · obtain rfl:i = l.length - 1:=by omega
    obtain ⟨hm3,hm20⟩:=hp (by omega)
    have d1:decide (((l.length - 1:Nat):Int) < ((l.length - 1:Nat):Int)) = false:=decide_eq_false (by omega)
    obtain ⟨x,hx⟩:∃ x,l[l.length - 1]? = some x:=⟨_,List.getElem?_eq_getElem (by omega)⟩
    have hxr:i64R x:=hlr x (List.mem_of_getElem? hx)
    have hrow:rowOf l = ((l.take (l.length - 1)).map numF,numF x):=by
      unfold rowOf
      rw [List.dropLast_eq_take,List.getLastD_eq_getLast?,List.getLast?_eq_getElem?,hx]
      rfl
    have hD:∀ n (m:Mem),m 123020 = some (g,rowE fracL ((l.take (l.length - 1)).map numF)) → toD (n + 1) m (.ref 123020 g 4 0 (l.length - 1)) = some (.sl (((l.take (l.length - 1)).map numF).map fracL)):=fun n m hm => by
      have:=toD_row (n:=n) fracL_len hm
      rw [show ((l.take (l.length - 1)).map numF).length = l.length - 1 by rw [List.length_map,List.length_take]; omega] at this
      exact this
    rcases hnf:numF x with ⟨⟨a,b⟩,⟨c,d⟩⟩
    rw [hrow,hnf]
    simp only [go_sem,reduceIte,Nat.reduceEqDiff,Nat.reduceAdd,Nat.reduceSub,Nat.reduceMul,Nat.reduceLeDiff,Bool.false_eq_true,reduceCtorEq,Nat.reduceLT,Nat.reduceBEq,Int.reduceEq,h_wnum,h0,h2,h3,h4,hm,hm3,hx,hxr,hnf,d1,hw0,fracL,i64L,rowL,List.length_map,List.getElem?_map]
    repeat' (first | refine wpG_not ?_ ?_ | refine wpG_yes ?_ ?_ | refine wpB_not ?_ ?_ | refine wpB_yes ?_ ?_ | refine wpGD_not ?_ ?_ | refine wpGD_yes ?_ ?_) <;> intro h <;> simp only [h,go_sem,reduceIte,Nat.reduceEqDiff,Nat.reduceAdd,Nat.reduceSub,Nat.reduceMul,Nat.reduceLeDiff,Bool.false_eq_true,reduceCtorEq,Nat.reduceLT,Nat.reduceBEq,Int.reduceEq,h_wnum,h0,h2,h3,h4,hm,hm3,hx,hxr,hnf,d1,hw0,fracL,i64L,rowL,List.length_map,List.getElem?_map]
    rw [hD 4 _ (by simp [updM,hm20])]
    rfl
end Go.Mini
namespace Go.Mini
open Go
set_option maxRecDepth 10000
set_option maxHeartbeats 4000000
theorem rowL_one (r:RowD):((rowL r).map MV.dat).all MV.one = true:=rfl
def homog (rs:List RowD):List RowD:=rs.map fun r => (r.1,numF 0)
theorem numF_zero:numF 0 = zF:=encR_zero
theorem i64_0:i64R 0:=by unfold i64R; omega
noncomputable def F_whom:List Data → Option PRes:=FF (α:=List RowD) (fun (rs:List RowD) => ([.sl (rs.map rowL)]:List Data)) (fun (rs:List RowD) => onlyIf (rs.length ≤ 1000) (.same (.sl ((homog rs).map rowL))))
theorem F_whom_inj:∀ a b:List RowD,(fun (rs:List RowD) => ([.sl (rs.map rowL)]:List Data)) a = (fun (rs:List RowD) => ([.sl (rs.map rowL)]:List Data)) b → a = b:=by
    intro rs1 rs2 h
    exact map_inj rowL_inj _ _ (by simpa using h)
@[go_sem] theorem F_whom_eq (rs:List RowD) (hc:rs.length ≤ 1000):F_whom [.sl (rs.map rowL)] = some (.same (.sl ((homog rs).map rowL))):=(FF_eq F_whom_inj rs).trans (onlyIf_pos hc _)
theorem w_whom (T:Tab) (h_wnum:T id_law06_number = mkE F_wnum) (rs:List RowD) (hc:rs.length ≤ 1000) :
    wp T mf_law06_homogeneous.body (endS mf_law06_homogeneous.res (.same (.sl ((homog rs).map rowL)))) ⟨initTm [.dat (.sl (rs.map rowL))],emp⟩:=by
  refine wp_start ?_
  simp only [mf_law06_homogeneous]
  have hn0:=i64_0
  simp only [go_sem,reduceIte,Nat.reduceEqDiff,Nat.reduceAdd,Nat.reduceSub,Nat.reduceMul,Nat.reduceLeDiff,Bool.false_eq_true,reduceCtorEq,Nat.reduceLT,Nat.reduceBEq,Int.reduceEq,h_wnum,List.length_map]
  refine wp_loop_keep [0] [] (fun ((i,g):Nat × Nat) tm mem => i ≤ rs.length ∧ tm 4 = .dat (.int .i64 i) ∧ tm 3 = .ref 114020 g 5 0 i ∧ mem 114020 = some (g,rowE rowL ((homog rs).take i))) (fun (i,_) => rs.length - i) (0,0) (by refine ⟨Nat.zero_le _,rfl,rfl,rfl⟩) ?_
  intro vs ms hvs hms
  simp only [go_sem,reduceIte,Nat.reduceEqDiff,Nat.reduceAdd,Nat.reduceSub,Nat.reduceMul,Nat.reduceLeDiff,Bool.false_eq_true,reduceCtorEq,Nat.reduceLT,Nat.reduceBEq,Int.reduceEq,h_wnum,List.length_map] at hvs hms
  subst hvs hms
  rintro ⟨i,g⟩ tm mem hk hm ⟨hi,h4,h3,hm20⟩
  simp only [go_sem,reduceIte,Nat.reduceEqDiff,Nat.reduceAdd,Nat.reduceSub,Nat.reduceMul,Nat.reduceLeDiff,Bool.false_eq_true,reduceCtorEq,Nat.reduceLT,Nat.reduceBEq,Int.reduceEq,h_wnum,List.cons.injEq] at hk
  have h0:=hk
  have hhl:(homog rs).length = rs.length:=by simp [homog]
  rcases Decidable.em (i < rs.length) with hlt | hge
  · obtain ⟨⟨A,V⟩,hx⟩:∃ f,rs[i]? = some f:=⟨_,List.getElem?_eq_getElem hlt⟩
    have hhx:(homog rs)[i]? = some (A,zF):=by unfold homog; rw [List.getElem?_map,hx,numF_zero]; rfl
    have d1:decide ((i:Int) < (rs.length:Int)) = true:=decide_eq_true (by omega)
    have w3:IntKind.i64.wrap ((i:Int) + 1) = ((i + 1:Nat):Int):=by rw [wrap64 _ (by omega) (by omega)]; omega
    have htl:((homog rs).take i).length = i:=by rw [List.length_take]; omega
    have hap:=app_row rowL_len rowL_one 114020 g 88 ((homog rs).take i) (A,zF) (cs:=[.dat (.sl (A.map fracL)),.dat (.int .i64 0),.dat (.sl []),.dat (.int .i64 1),.dat (.sl [[.int .i64 1]])]) rfl (by omega) (by omega)
    have hnt:(homog rs).take i ++ [(A,zF)] = (homog rs).take (i + 1):=by rw [List.take_add_one,hhx]; rfl
    rw [htl,hnt] at hap
    simp only [go_sem,reduceIte,Nat.reduceEqDiff,Nat.reduceAdd,Nat.reduceSub,Nat.reduceMul,Nat.reduceLeDiff,Bool.false_eq_true,reduceCtorEq,Nat.reduceLT,Nat.reduceBEq,Int.reduceEq,h_wnum,h0,h3,h4,hm20,hx,hn0,d1,w3,hap,rowL,fracL,numF_zero,zF,i64L,List.map_nil,List.map_cons,List.length_map,List.getElem?_map]
    repeat' (first | refine wpG_not ?_ ?_ | refine wpG_yes ?_ ?_ | refine wpB_not ?_ ?_ | refine wpB_yes ?_ ?_ | refine wpGD_not ?_ ?_ | refine wpGD_yes ?_ ?_) <;> intro h <;> simp only [h,go_sem,reduceIte,Nat.reduceEqDiff,Nat.reduceAdd,Nat.reduceSub,Nat.reduceMul,Nat.reduceLeDiff,Bool.false_eq_true,reduceCtorEq,Nat.reduceLT,Nat.reduceBEq,Int.reduceEq,h_wnum,h0,h3,h4,hm20,hx,hn0,d1,w3,hap,rowL,fracL,numF_zero,zF,i64L,List.map_nil,List.map_cons,List.length_map,List.getElem?_map]
    exact ⟨(i + 1,g + 1),by dsimp only; omega,by dsimp only; omega,rfl,rfl,rfl⟩
  · obtain rfl:i = rs.length:=by omega
    have d1:decide ((rs.length:Int) < (rs.length:Int)) = false:=decide_eq_false (by omega)
    rw [List.take_of_length_le (by omega)] at hm20
    have hD:=toD_row (n:=5) rowL_len hm20
    rw [hhl] at hD
    simp only [go_sem,reduceIte,Nat.reduceEqDiff,Nat.reduceAdd,Nat.reduceSub,Nat.reduceMul,Nat.reduceLeDiff,Bool.false_eq_true,reduceCtorEq,Nat.reduceLT,Nat.reduceBEq,Int.reduceEq,h_wnum,h0,h3,h4,hm20,hD,d1,List.length_map]
    repeat' (first | refine wpG_not ?_ ?_ | refine wpG_yes ?_ ?_ | refine wpB_not ?_ ?_ | refine wpB_yes ?_ ?_ | refine wpGD_not ?_ ?_ | refine wpGD_yes ?_ ?_) <;> intro h <;> simp only [h,go_sem,reduceIte,Nat.reduceEqDiff,Nat.reduceAdd,Nat.reduceSub,Nat.reduceMul,Nat.reduceLeDiff,Bool.false_eq_true,reduceCtorEq,Nat.reduceLT,Nat.reduceBEq,Int.reduceEq,h_wnum,h0,h3,h4,hm20,hD,d1,List.length_map]
/-- All operations on a row's elements succeed. -/
def timesOK (r:RowD) (f:FRaw):Prop:=(∀ a ∈ r.1,(mulF a f).2 = 0) ∧ (mulF r.2 f).2 = 0
def timesX (r:RowD) (f:FRaw):RowD:=(r.1.map fun a => (mulF a f).1,(mulF r.2 f).1)
def plusOK (r r2:RowD):Prop:=r.1.length = r2.1.length ∧ (∀ (i:Nat) a b,r.1[i]? = some a → r2.1[i]? = some b → (addF a b).2 = 0) ∧ (addF r.2 r2.2).2 = 0
def plusX (r r2:RowD):RowD:=(List.zipWith (fun a b => (addF a b).1) r.1 r2.1,(addF r.2 r2.2).1)
end Go.Mini
namespace Go.Mini
open Go
set_option maxRecDepth 100000
set_option maxHeartbeats 4000000
theorem okRows_dec {rs:List RowD} (h:(decide (rs.length ≤ 1000000) && rs.all fun r => (decide (r.1.length ≤ 1000000) && r.1.all fun f => decide (f.1.2.length ≤ 1000000) && decide (f.2.2.length ≤ 1000000)) && (decide (r.2.1.2.length ≤ 1000000) && decide (r.2.2.2.length ≤ 1000000))) = true):okRows rs:=by
  simp only [Bool.and_eq_true,decide_eq_true_eq,List.all_eq_true] at h
  exact ⟨h.1,fun r hr => ⟨⟨(h.2 r hr).1.1,fun f hf => (h.2 r hr).1.2 f hf⟩,(h.2 r hr).2⟩⟩
noncomputable def F_wsmall:List Data → Option PRes:=FF (α:=Unit) (fun (_:Unit) => ([]:List Data)) (fun (_:Unit) => some (.same (.bool true)))
theorem F_wsmall_inj:∀ a b:Unit,(fun (_:Unit) => ([]:List Data)) a = (fun (_:Unit) => ([]:List Data)) b → a = b:=by
    intro _ _ _; rfl
@[go_sem] theorem F_wsmall_eq :F_wsmall [] = some (.same (.bool true)):=FF_eq F_wsmall_inj ()
theorem w_wsmall (T:Tab) (h_wrow:T id_law06_row = mkE F_wrow) (h_wnum:T id_law06_number = mkE F_wnum) (h_linSolve:T id_linear_Solve = mkE F_linSolve) (h_linKern:T id_linear_Kernel = mkE F_linKern) (h_linRank:T id_linear_Rank = mkE F_linRank) (h_linCheck:T id_linear_Check = mkE F_linCheck) (h_linRight:T id_linear_Right = mkE F_linRight) (h_gOf:T id_ref05_Of = mkE F_gOf) (h_hSame:T id_ref06_Same = mkE F_hSame)  :
    wp T mf_law06_small.body (endS mf_law06_small.res (.same (.bool true))) ⟨initTm [],emp⟩:=by
  refine wp_start ?_
  simp only [mf_law06_small]
  have i64s:∀ x:Int,-10 ≤ x ∧ x ≤ 10 → i64R x:=fun x h => by unfold i64R; omega
  have r1:=F_wrow_eq [2,1] ⟨by decide,by decide,fun x hx => i64s x (by simp at hx; omega)⟩
  have r2:=F_wrow_eq [1,1,3] ⟨by decide,by decide,fun x hx => i64s x (by simp at hx; omega)⟩
  have r3:=F_wrow_eq [1,-1,1] ⟨by decide,by decide,fun x hx => i64s x (by simp at hx; omega)⟩
  have r4:=F_wrow_eq [1,2,1] ⟨by decide,by decide,fun x hx => i64s x (by simp at hx; omega)⟩
  have r5:=F_wrow_eq [2,4,5] ⟨by decide,by decide,fun x hx => i64s x (by simp at hx; omega)⟩
  have e1:rowOf [2,1] = ([((1,[2]),(1,[1]))],((1,[1]),(1,[1]))):=by decide +kernel
  have e2:rowOf [1,1,3] = ([((1,[1]),(1,[1])),((1,[1]),(1,[1]))],((1,[3]),(1,[1]))):=by decide +kernel
  have e3:rowOf [1,-1,1] = ([((1,[1]),(1,[1])),((-1,[1]),(1,[1]))],((1,[1]),(1,[1]))):=by decide +kernel
  have e4:rowOf [1,2,1] = ([((1,[1]),(1,[1])),((1,[2]),(1,[1]))],((1,[1]),(1,[1]))):=by decide +kernel
  have e5:rowOf [2,4,5] = ([((1,[2]),(1,[1])),((1,[4]),(1,[1]))],((1,[5]),(1,[1]))):=by decide +kernel
  have s1:=F_linSolve_eq [rowOf [2,1]] 1 (okRows_dec (by decide +kernel))
  have s2:=F_linSolve_eq [rowOf [1,1,3],rowOf [1,-1,1]] 2 (okRows_dec (by decide +kernel))
  have s3:=F_linSolve_eq [rowOf [1,2,1],rowOf [2,4,5]] 2 (okRows_dec (by decide +kernel))
  have k3:=F_linKern_eq [rowOf [1,2,1],rowOf [2,4,5]] 2 (okRows_dec (by decide +kernel))
  have a3:=F_linRank_eq [rowOf [1,2,1],rowOf [2,4,5]] 2 (okRows_dec (by decide +kernel))
  have kx:kernX [rowOf [1,2,1],rowOf [2,4,5]] 2 = ([((-1,[2]),(1,[1])),((1,[1]),(1,[1]))],true):=by decide +kernel
  have okk:okL [((-1,[2]),(1,[1])),((1,[1]),(1,[1]))]:=⟨by decide,fun f hf => by simp at hf; rcases hf with rfl | rfl <;> exact ⟨by decide,by decide⟩⟩
  have c3:=F_linCheck_eq [rowOf [1,2,1],rowOf [2,4,5]] 2 [((-1,[2]),(1,[1])),((1,[1]),(1,[1]))] ⟨okRows_dec (by decide +kernel),okk⟩
  have g0:=F_linRight_eq [] 0 (okRows_dec (by decide +kernel))
  rw [show solveX [rowOf [2,1]] 1 = ([((1,[1]),(1,[2]))],0) by decide +kernel] at s1
  rw [show solveX [rowOf [1,1,3],rowOf [1,-1,1]] 2 = ([((1,[2]),(1,[1])),((1,[1]),(1,[1]))],0) by decide +kernel] at s2
  rw [show solveX [rowOf [1,2,1],rowOf [2,4,5]] 2 = ([],17) by decide +kernel] at s3
  rw [kx] at k3
  rw [show rankX [rowOf [1,2,1],rowOf [2,4,5]] 2 = (1,0) by decide +kernel] at a3
  rw [show checkX [rowOf [1,2,1],rowOf [2,4,5]] 2 [((-1,[2]),(1,[1])),((1,[1]),(1,[1]))] = false by decide +kernel] at c3
  rw [show rightS [] 0 = true by decide +kernel] at g0
  rw [e1] at r1 s1
  rw [e2] at r2 s2
  rw [e3] at r3 s2
  rw [e4] at r4 s3 k3 a3 c3
  rw [e5] at r5 s3 k3 a3 c3
  have n2:=F_wnum_eq 2 (i64s 2 (by omega))
  have n1:=F_wnum_eq 1 (i64s 1 (by omega))
  have nm:=F_wnum_eq (-2) (i64s (-2) (by omega))
  rw [show numF 2 = ((1,[2]),(1,[1])) by decide +kernel] at n2
  rw [show numF 1 = ((1,[1]),(1,[1])) by decide +kernel] at n1
  rw [show numF (-2) = ((-1,[2]),(1,[1])) by decide +kernel] at nm
  have hh:=F_gOf_eq 1 2 ⟨i64s 1 (by omega),i64s 2 (by omega)⟩
  rw [show newR (encB 1) (encB 2) = (((1,[1]),(1,[2])),0) by decide +kernel] at hh
  have okh:okL [((1,[1]),(1,[2]))]:=⟨by decide,fun f hf => by simp at hf; rcases hf with rfl; exact ⟨by decide,by decide⟩⟩
  have ok2:okL [((1,[2]),(1,[1])),((1,[1]),(1,[1]))]:=⟨by decide,fun f hf => by simp at hf; rcases hf with rfl | rfl <;> exact ⟨by decide,by decide⟩⟩
  have q1:=F_hSame_eq [((1,[1]),(1,[2]))] [((1,[1]),(1,[2]))] ⟨okh,okh⟩
  have q2:=F_hSame_eq [((1,[2]),(1,[1])),((1,[1]),(1,[1]))] [((1,[2]),(1,[1])),((1,[1]),(1,[1]))] ⟨ok2,ok2⟩
  have q3:=F_hSame_eq [((-1,[2]),(1,[1])),((1,[1]),(1,[1]))] [((-1,[2]),(1,[1])),((1,[1]),(1,[1]))] ⟨okk,okk⟩
  rw [show sameFs [((1,[1]),(1,[2]))] [((1,[1]),(1,[2]))] = true from decide_eq_true rfl] at q1
  rw [show sameFs [((1,[2]),(1,[1])),((1,[1]),(1,[1]))] [((1,[2]),(1,[1])),((1,[1]),(1,[1]))] = true from decide_eq_true rfl] at q2
  rw [show sameFs [((-1,[2]),(1,[1])),((1,[1]),(1,[1]))] [((-1,[2]),(1,[1])),((1,[1]),(1,[1]))] = true from decide_eq_true rfl] at q3
  clear e1 e2 e3 e4 e5 kx
  simp only [rowL,fracL,fracE,i64L,List.map_cons,List.map_nil] at r1 r2 r3 r4 r5 s1 s2 s3 k3 a3 c3 g0 n1 n2 nm hh q1 q2 q3
  simp only [go_sem,reduceIte,Nat.reduceEqDiff,Nat.reduceAdd,Nat.reduceSub,Nat.reduceMul,Nat.reduceLeDiff,Bool.false_eq_true,reduceCtorEq,Nat.reduceLT,Nat.reduceBEq,Int.reduceEq,h_wrow,h_wnum,h_linSolve,h_linKern,h_linRank,h_linCheck,h_linRight,h_gOf,h_hSame,r1,r2,r3,r4,r5,s1,s2,s3,k3,a3,c3,g0,n1,n2,nm,hh,q1,q2,q3,beq_self_eq_true]
end Go.Mini
namespace Go.Mini
open Go
set_option maxRecDepth 10000
set_option maxHeartbeats 4000000
theorem few_okF {f:FRaw} (h:fewF f 1 = true):f.1.2.length ≤ 1 ∧ f.2.2.length ≤ 1:=by
  unfold fewF at h
  simp only [Bool.and_eq_true,decide_eq_true_eq] at h
  omega
theorem few_list {l:List FRaw} (h:fewFs l 3 1 = true):l.length ≤ 3 ∧ ∀ f ∈ l,fewF f 1 = true:=by
  unfold fewFs at h
  simp only [Bool.and_eq_true,decide_eq_true_eq,List.all_eq_true] at h
  exact ⟨by omega,h.2⟩
theorem few_rows {l:List RowD} (h:fewRows l 3 1 = true):l.length ≤ 3 ∧ ∀ r ∈ l,fewFs r.1 3 1 = true ∧ fewF r.2 1 = true:=by
  unfold fewRows fewRow at h
  simp only [Bool.and_eq_true,decide_eq_true_eq,List.all_eq_true] at h
  exact ⟨by omega,h.2⟩
theorem okF_few {f:FRaw} (h:fewF f 1 = true):okF f:=⟨by have:=few_okF h; omega,by have:=few_okF h; omega⟩
theorem okL_few {l:List FRaw} (h:fewFs l 3 1 = true):okL l:=⟨by have:=(few_list h).1; omega,fun f hf => okF_few ((few_list h).2 f hf)⟩
theorem okRows_few {l:List RowD} (h:fewRows l 3 1 = true):okRows l:=⟨by have:=(few_rows h).1; omega,fun r hr => ⟨okL_few ((few_rows h).2 r hr).1,okF_few ((few_rows h).2 r hr).2⟩⟩
def OnlyP (rs:List RowD) (x:List FRaw):Prop:=fewRows rs 3 1 = true → fewFs x 3 1 = true → rightS rs rs.length = true →
  (∃ a,solveX rs rs.length = (a,0) ∧ kernX rs rs.length = ([],false) ∧ okL a ∧ checkX rs rs.length a = true ∧ (checkX rs rs.length x = true → sameFs x a = true)) ∨
  (∃ k,solveX rs rs.length = ([],17) ∧ kernX rs rs.length = (k,true) ∧ okL k ∧ k.length = rs.length ∧ (k.all fun f => f.1.1 == 0) = false ∧ okRows (homog rs) ∧ checkX (homog rs) rs.length k = true)
noncomputable def F_wOnly:List Data → Option PRes:=FF (α:=(List RowD) × (List FRaw)) (fun (rs,x) => ([.sl (rs.map rowL),.sl (x.map fracL)]:List Data)) (fun (rs,x) => onlyIf (OnlyP rs x) (.same (.bool true)))
theorem F_wOnly_inj:∀ a b:(List RowD) × (List FRaw),(fun (rs,x) => ([.sl (rs.map rowL),.sl (x.map fracL)]:List Data)) a = (fun (rs,x) => ([.sl (rs.map rowL),.sl (x.map fracL)]:List Data)) b → a = b:=by
    rintro ⟨rs1,x1⟩ ⟨rs2,x2⟩ h
    simp only [List.cons.injEq,Data.sl.injEq] at h; exact Prod.ext (map_inj rowL_inj _ _ h.1) (map_inj fracL_inj _ _ h.2.1)
@[go_sem] theorem F_wOnly_eq (rs:List RowD) (x:List FRaw) (hc:OnlyP rs x):F_wOnly [.sl (rs.map rowL),.sl (x.map fracL)] = some (.same (.bool true)):=(FF_eq F_wOnly_inj (rs,x)).trans (onlyIf_pos hc _)
theorem w_wOnly (T:Tab) (h_wsmall:T id_law06_small = mkE F_wsmall) (h_hFew:T id_ref06_Few = mkE F_hFew) (h_hFewFracs:T id_ref06_FewFracs = mkE F_hFewFracs) (h_linRight:T id_linear_Right = mkE F_linRight) (h_linSolve:T id_linear_Solve = mkE F_linSolve) (h_linKern:T id_linear_Kernel = mkE F_linKern) (h_linCheck:T id_linear_Check = mkE F_linCheck) (h_hSame:T id_ref06_Same = mkE F_hSame) (h_hZero:T id_ref06_Zero = mkE F_hZero) (h_whom:T id_law06_homogeneous = mkE F_whom) (rs:List RowD) (x:List FRaw) (hc:OnlyP rs x) :
    wp T mf_law06_LinearOnly.body (endS mf_law06_LinearOnly.res (.same (.bool true))) ⟨initTm [.dat (.sl (rs.map rowL)),.dat (.sl (x.map fracL))],emp⟩:=by
  refine wp_start ?_
  simp only [mf_law06_LinearOnly]
  have sm:=F_wsmall_eq
  have g1:=F_hFew_eq rs 3 1 (by omega)
  have g2:=F_hFewFracs_eq x 3 1 (by omega)
  rcases hf:fewRows rs 3 1
  · rw [hf] at g1
    simp only [go_sem,reduceIte,Nat.reduceEqDiff,Nat.reduceAdd,Nat.reduceSub,Nat.reduceMul,Nat.reduceLeDiff,Bool.false_eq_true,reduceCtorEq,Nat.reduceLT,Nat.reduceBEq,Int.reduceEq,h_wsmall,h_hFew,h_hFewFracs,h_linRight,h_linSolve,h_linKern,h_linCheck,h_hSame,h_hZero,h_whom,sm,g1,List.length_map]
    repeat' (first | refine wpG_not ?_ ?_ | refine wpG_yes ?_ ?_ | refine wpB_not ?_ ?_ | refine wpB_yes ?_ ?_ | refine wpGD_not ?_ ?_ | refine wpGD_yes ?_ ?_) <;> intro h <;> simp only [h,go_sem,reduceIte,Nat.reduceEqDiff,Nat.reduceAdd,Nat.reduceSub,Nat.reduceMul,Nat.reduceLeDiff,Bool.false_eq_true,reduceCtorEq,Nat.reduceLT,Nat.reduceBEq,Int.reduceEq,h_wsmall,h_hFew,h_hFewFracs,h_linRight,h_linSolve,h_linKern,h_linCheck,h_hSame,h_hZero,h_whom,sm,g1,List.length_map]
  rw [hf] at g1
  rcases hx:fewFs x 3 1
  · rw [hx] at g2
    simp only [go_sem,reduceIte,Nat.reduceEqDiff,Nat.reduceAdd,Nat.reduceSub,Nat.reduceMul,Nat.reduceLeDiff,Bool.false_eq_true,reduceCtorEq,Nat.reduceLT,Nat.reduceBEq,Int.reduceEq,h_wsmall,h_hFew,h_hFewFracs,h_linRight,h_linSolve,h_linKern,h_linCheck,h_hSame,h_hZero,h_whom,sm,g1,g2,List.length_map]
    repeat' (first | refine wpG_not ?_ ?_ | refine wpG_yes ?_ ?_ | refine wpB_not ?_ ?_ | refine wpB_yes ?_ ?_ | refine wpGD_not ?_ ?_ | refine wpGD_yes ?_ ?_) <;> intro h <;> simp only [h,go_sem,reduceIte,Nat.reduceEqDiff,Nat.reduceAdd,Nat.reduceSub,Nat.reduceMul,Nat.reduceLeDiff,Bool.false_eq_true,reduceCtorEq,Nat.reduceLT,Nat.reduceBEq,Int.reduceEq,h_wsmall,h_hFew,h_hFewFracs,h_linRight,h_linSolve,h_linKern,h_linCheck,h_hSame,h_hZero,h_whom,sm,g1,g2,List.length_map]
  rw [hx] at g2
  have okr:=okRows_few hf
  have okx:=okL_few hx
  have hn3:=(few_rows hf).1
  rcases hr:rightS rs rs.length
  · simp only [go_sem,reduceIte,Nat.reduceEqDiff,Nat.reduceAdd,Nat.reduceSub,Nat.reduceMul,Nat.reduceLeDiff,Bool.false_eq_true,reduceCtorEq,Nat.reduceLT,Nat.reduceBEq,Int.reduceEq,h_wsmall,h_hFew,h_hFewFracs,h_linRight,h_linSolve,h_linKern,h_linCheck,h_hSame,h_hZero,h_whom,sm,g1,g2,okr,hr,List.length_map]
    repeat' (first | refine wpG_not ?_ ?_ | refine wpG_yes ?_ ?_ | refine wpB_not ?_ ?_ | refine wpB_yes ?_ ?_ | refine wpGD_not ?_ ?_ | refine wpGD_yes ?_ ?_) <;> intro h <;> simp only [h,go_sem,reduceIte,Nat.reduceEqDiff,Nat.reduceAdd,Nat.reduceSub,Nat.reduceMul,Nat.reduceLeDiff,Bool.false_eq_true,reduceCtorEq,Nat.reduceLT,Nat.reduceBEq,Int.reduceEq,h_wsmall,h_hFew,h_hFewFracs,h_linRight,h_linSolve,h_linKern,h_linCheck,h_hSame,h_hZero,h_whom,sm,g1,g2,okr,hr,List.length_map]
  have hn1:rs.length ≤ 1000:=by omega
  rcases hc hf hx hr with ⟨a,hs,hk,hoa,hca,himp⟩ | ⟨k,hs,hk,hok,hkl,hnz,hoh,hck⟩
  · have sv:=F_linSolve_eq rs rs.length okr
    have kn:=F_linKern_eq rs rs.length okr
    have ck:=F_linCheck_eq rs rs.length a ⟨okr,hoa⟩
    have cx:=F_linCheck_eq rs rs.length x ⟨okr,okx⟩
    have sa:=F_hSame_eq x a ⟨okx,hoa⟩
    rw [hs] at sv
    rw [hk] at kn
    rw [hca] at ck
    simp only [List.map_nil] at kn
    rcases hcx:checkX rs rs.length x
    · rw [hcx] at cx
      simp only [go_sem,reduceIte,Nat.reduceEqDiff,Nat.reduceAdd,Nat.reduceSub,Nat.reduceMul,Nat.reduceLeDiff,Bool.false_eq_true,reduceCtorEq,Nat.reduceLT,Nat.reduceBEq,Int.reduceEq,h_wsmall,h_hFew,h_hFewFracs,h_linRight,h_linSolve,h_linKern,h_linCheck,h_hSame,h_hZero,h_whom,sm,g1,g2,okr,hr,sv,kn,ck,cx,beq_self_eq_true,Int.natCast_zero,Int.cast_ofNat_Int,List.length_map,List.length_nil]
      repeat' (first | refine wpG_not ?_ ?_ | refine wpG_yes ?_ ?_ | refine wpB_not ?_ ?_ | refine wpB_yes ?_ ?_ | refine wpGD_not ?_ ?_ | refine wpGD_yes ?_ ?_) <;> intro h <;> simp only [h,go_sem,reduceIte,Nat.reduceEqDiff,Nat.reduceAdd,Nat.reduceSub,Nat.reduceMul,Nat.reduceLeDiff,Bool.false_eq_true,reduceCtorEq,Nat.reduceLT,Nat.reduceBEq,Int.reduceEq,h_wsmall,h_hFew,h_hFewFracs,h_linRight,h_linSolve,h_linKern,h_linCheck,h_hSame,h_hZero,h_whom,sm,g1,g2,okr,hr,sv,kn,ck,cx,beq_self_eq_true,Int.natCast_zero,Int.cast_ofNat_Int,List.length_map,List.length_nil]
    · rw [hcx] at cx
      rw [himp hcx] at sa
      simp only [go_sem,reduceIte,Nat.reduceEqDiff,Nat.reduceAdd,Nat.reduceSub,Nat.reduceMul,Nat.reduceLeDiff,Bool.false_eq_true,reduceCtorEq,Nat.reduceLT,Nat.reduceBEq,Int.reduceEq,h_wsmall,h_hFew,h_hFewFracs,h_linRight,h_linSolve,h_linKern,h_linCheck,h_hSame,h_hZero,h_whom,sm,g1,g2,okr,hr,sv,kn,ck,cx,sa,beq_self_eq_true,Int.natCast_zero,Int.cast_ofNat_Int,List.length_map,List.length_nil]
      repeat' (first | refine wpG_not ?_ ?_ | refine wpG_yes ?_ ?_ | refine wpB_not ?_ ?_ | refine wpB_yes ?_ ?_ | refine wpGD_not ?_ ?_ | refine wpGD_yes ?_ ?_) <;> intro h <;> simp only [h,go_sem,reduceIte,Nat.reduceEqDiff,Nat.reduceAdd,Nat.reduceSub,Nat.reduceMul,Nat.reduceLeDiff,Bool.false_eq_true,reduceCtorEq,Nat.reduceLT,Nat.reduceBEq,Int.reduceEq,h_wsmall,h_hFew,h_hFewFracs,h_linRight,h_linSolve,h_linKern,h_linCheck,h_hSame,h_hZero,h_whom,sm,g1,g2,okr,hr,sv,kn,ck,cx,sa,beq_self_eq_true,Int.natCast_zero,Int.cast_ofNat_Int,List.length_map,List.length_nil]
  · have sv:=F_linSolve_eq rs rs.length okr
    have kn:=F_linKern_eq rs rs.length okr
    have hm:=F_whom_eq rs hn1
    have ck:=F_linCheck_eq (homog rs) rs.length k ⟨hoh,hok⟩
    rw [hs] at sv
    rw [hk] at kn
    rw [hck] at ck
    simp only [List.map_nil] at sv
    have hkl':(((k.length:Nat):Int) == ((rs.length:Nat):Int)) = true:=by rw [beq_iff_eq]; omega
    simp only [go_sem,reduceIte,Nat.reduceEqDiff,Nat.reduceAdd,Nat.reduceSub,Nat.reduceMul,Nat.reduceLeDiff,Bool.false_eq_true,reduceCtorEq,Nat.reduceLT,Nat.reduceBEq,Int.reduceEq,h_wsmall,h_hFew,h_hFewFracs,h_linRight,h_linSolve,h_linKern,h_linCheck,h_hSame,h_hZero,h_whom,sm,g1,g2,okr,hr,sv,kn,hkl',beq_self_eq_true,Bool.not_true,bne,Int.natCast_zero,Int.cast_ofNat_Int,List.length_map,List.length_nil,show ((17:Int) == 0) = false from rfl]
    refine wp_loop_keep [0,5,6,9] [] (fun (i:Nat) tm mem => i ≤ rs.length ∧ tm 12 = .dat (.int .i64 i) ∧ tm 11 = .dat (.bool ((k.take i).all fun f => f.1.1 == 0))) (fun i => rs.length - i) 0 (by refine ⟨Nat.zero_le _,rfl,rfl⟩) ?_
    intro vs ms hvs hms
    simp only [go_sem,reduceIte,Nat.reduceEqDiff,Nat.reduceAdd,Nat.reduceSub,Nat.reduceMul,Nat.reduceLeDiff,Bool.false_eq_true,reduceCtorEq,Nat.reduceLT,Nat.reduceBEq,Int.reduceEq,h_wsmall,h_hFew,h_hFewFracs,h_linRight,h_linSolve,h_linKern,h_linCheck,h_hSame,h_hZero,h_whom,List.length_map] at hvs hms
    subst hvs hms
    rintro i tm mem hk hm' ⟨hi,h12,h11⟩
    simp only [go_sem,reduceIte,Nat.reduceEqDiff,Nat.reduceAdd,Nat.reduceSub,Nat.reduceMul,Nat.reduceLeDiff,Bool.false_eq_true,reduceCtorEq,Nat.reduceLT,Nat.reduceBEq,Int.reduceEq,h_wsmall,h_hFew,h_hFewFracs,h_linRight,h_linSolve,h_linKern,h_linCheck,h_hSame,h_hZero,h_whom,List.cons.injEq] at hk
    obtain ⟨h0,h5,h6,h9⟩:=hk
    rcases Decidable.em (i < rs.length) with hlt | hge
    · obtain ⟨⟨⟨a1,a2⟩,⟨a3,a4⟩⟩,hx⟩:∃ f,k[i]? = some f:=⟨_,List.getElem?_eq_getElem (by omega)⟩
      have d1:decide ((i:Int) < (rs.length:Int)) = true:=decide_eq_true (by omega)
      have w3:IntKind.i64.wrap ((i:Int) + 1) = ((i + 1:Nat):Int):=by rw [wrap64 _ (by omega) (by omega)]; omega
      have hnt:((k.take (i + 1)).all fun f => f.1.1 == 0) = (((k.take i).all fun f => f.1.1 == 0) && (a1 == 0)):=all_take hx
      rcases hb:(k.take i).all fun f => f.1.1 == 0
      · rw [hb] at h11 hnt
        rw [Bool.false_and] at hnt
        simp only [go_sem,reduceIte,Nat.reduceEqDiff,Nat.reduceAdd,Nat.reduceSub,Nat.reduceMul,Nat.reduceLeDiff,Bool.false_eq_true,reduceCtorEq,Nat.reduceLT,Nat.reduceBEq,Int.reduceEq,h_wsmall,h_hFew,h_hFewFracs,h_linRight,h_linSolve,h_linKern,h_linCheck,h_hSame,h_hZero,h_whom,h0,h5,h6,h9,h11,h12,hx,d1,w3,fracL,List.length_map,List.getElem?_map]
        repeat' (first | refine wpG_not ?_ ?_ | refine wpG_yes ?_ ?_ | refine wpB_not ?_ ?_ | refine wpB_yes ?_ ?_ | refine wpGD_not ?_ ?_ | refine wpGD_yes ?_ ?_) <;> intro h <;> simp only [h,go_sem,reduceIte,Nat.reduceEqDiff,Nat.reduceAdd,Nat.reduceSub,Nat.reduceMul,Nat.reduceLeDiff,Bool.false_eq_true,reduceCtorEq,Nat.reduceLT,Nat.reduceBEq,Int.reduceEq,h_wsmall,h_hFew,h_hFewFracs,h_linRight,h_linSolve,h_linKern,h_linCheck,h_hSame,h_hZero,h_whom,h0,h5,h6,h9,h11,h12,hx,d1,w3,fracL,List.length_map,List.getElem?_map]
        exact ⟨i + 1,by omega,by omega,rfl,by rw [hnt]⟩
      · rw [hb] at h11 hnt
        rw [Bool.true_and] at hnt
        simp only [go_sem,reduceIte,Nat.reduceEqDiff,Nat.reduceAdd,Nat.reduceSub,Nat.reduceMul,Nat.reduceLeDiff,Bool.false_eq_true,reduceCtorEq,Nat.reduceLT,Nat.reduceBEq,Int.reduceEq,h_wsmall,h_hFew,h_hFewFracs,h_linRight,h_linSolve,h_linKern,h_linCheck,h_hSame,h_hZero,h_whom,h0,h5,h6,h9,h11,h12,hx,d1,w3,fracL,List.length_map,List.getElem?_map]
        repeat' (first | refine wpG_not ?_ ?_ | refine wpG_yes ?_ ?_ | refine wpB_not ?_ ?_ | refine wpB_yes ?_ ?_ | refine wpGD_not ?_ ?_ | refine wpGD_yes ?_ ?_) <;> intro h <;> simp only [h,go_sem,reduceIte,Nat.reduceEqDiff,Nat.reduceAdd,Nat.reduceSub,Nat.reduceMul,Nat.reduceLeDiff,Bool.false_eq_true,reduceCtorEq,Nat.reduceLT,Nat.reduceBEq,Int.reduceEq,h_wsmall,h_hFew,h_hFewFracs,h_linRight,h_linSolve,h_linKern,h_linCheck,h_hSame,h_hZero,h_whom,h0,h5,h6,h9,h11,h12,hx,d1,w3,fracL,List.length_map,List.getElem?_map]
        exact ⟨i + 1,by omega,by omega,rfl,by rw [hnt]⟩
    · obtain rfl:i = rs.length:=by omega
      have d1:decide ((rs.length:Int) < (rs.length:Int)) = false:=decide_eq_false (by omega)
      rw [List.take_of_length_le (by omega),hnz] at h11
      simp only [go_sem,reduceIte,Nat.reduceEqDiff,Nat.reduceAdd,Nat.reduceSub,Nat.reduceMul,Nat.reduceLeDiff,Bool.false_eq_true,reduceCtorEq,Nat.reduceLT,Nat.reduceBEq,Int.reduceEq,h_wsmall,h_hFew,h_hFewFracs,h_linRight,h_linSolve,h_linKern,h_linCheck,h_hSame,h_hZero,h_whom,h0,h5,h6,h9,h11,h12,d1,hm,ck]
      repeat' (first | refine wpG_not ?_ ?_ | refine wpG_yes ?_ ?_ | refine wpB_not ?_ ?_ | refine wpB_yes ?_ ?_ | refine wpGD_not ?_ ?_ | refine wpGD_yes ?_ ?_) <;> intro h <;> simp only [h,go_sem,reduceIte,Nat.reduceEqDiff,Nat.reduceAdd,Nat.reduceSub,Nat.reduceMul,Nat.reduceLeDiff,Bool.false_eq_true,reduceCtorEq,Nat.reduceLT,Nat.reduceBEq,Int.reduceEq,h_wsmall,h_hFew,h_hFewFracs,h_linRight,h_linSolve,h_linKern,h_linCheck,h_hSame,h_hZero,h_whom,h0,h5,h6,h9,h11,h12,d1,hm,ck]
end Go.Mini
namespace Go.Mini
open Go Go.Proofs
set_option maxRecDepth 100000
theorem mixed:Try.prog.follows .mixedOrders = true:=by kernel_rfl
theorem tr_trim:trFunc Try.prog 177000 [] Try.f79 = some { mf_big_trim with body:=erase mf_big_trim.body }:=by kernel_rfl
theorem nm_trim : (Try.f79.name == "runtime.NumGoroutine") = false := by kernel_rfl
theorem ps_trim:PSpec Try.prog id_big_trim F_trim:=pspec_of (mkTE_ok (PTl_ok (l:=[]) PTl_nil) (ETl_ok (l:=[]) ETl_nil)) mixed Try.func79 nm_trim tr_trim fun ds r h => by
  obtain ⟨x0,hds,hr⟩:=FF_inv h
  clear h
  subst hds
  obtain ⟨hc,rfl⟩:=onlyIf_inv hr
  exact ⟨Nat.le_of_ble_eq_true rfl,w_trim _  x0 hc⟩
theorem es_trim:ESpec Try.prog id_big_trim (mkG G_trim):=RSpec.toE (rspec_of (mkTE_ok (PTl_ok (l:=[]) PTl_nil) (ETl_ok (l:=[]) ETl_nil)) mixed Try.func79 nm_trim tr_trim fun args mem x h => by
  obtain ⟨a,⟨rfl,hm,hl⟩,rfl⟩:=GG_inv h
  exact ⟨Nat.le_of_ble_eq_true rfl,w_trimG _ a.l a.k a.g mem hm hl⟩)
theorem tr_isNaN:trFunc Try.prog 184000 [] Try.f86 = some { mf_cmp_isNaN_int with body:=erase mf_cmp_isNaN_int.body }:=by kernel_rfl
theorem nm_isNaN : (Try.f86.name == "runtime.NumGoroutine") = false := by kernel_rfl
theorem ps_isNaN:PSpec Try.prog id_cmp_isNaN_int F_isNaN:=pspec_of (mkTE_ok (PTl_ok (l:=[]) PTl_nil) (ETl_ok (l:=[]) ETl_nil)) mixed Try.func86 nm_isNaN tr_isNaN fun ds r h => by
  obtain ⟨x0,hds,hr⟩:=FF_inv h
  clear h
  subst hds
  obtain rfl:=Option.some.inj hr
  exact ⟨Nat.le_of_ble_eq_true rfl,w_isNaN _  x0⟩
theorem tr_cmpI:trFunc Try.prog 174000 [] Try.f76 = some { mf_cmp_Compare_int with body:=erase mf_cmp_Compare_int.body }:=by kernel_rfl
theorem nm_cmpI : (Try.f76.name == "runtime.NumGoroutine") = false := by kernel_rfl
theorem ps_cmpI:PSpec Try.prog id_cmp_Compare_int F_cmpI:=pspec_of (mkTE_ok (PTl_ok (l:=[(id_cmp_isNaN_int,F_isNaN)]) (PTl_cons ps_isNaN PTl_nil)) (ETl_ok (l:=[]) ETl_nil)) mixed Try.func76 nm_cmpI tr_cmpI fun ds r h => by
  obtain ⟨⟨x0,x1⟩,hds,hr⟩:=FF_inv h
  clear h
  subst hds
  obtain rfl:=Option.some.inj hr
  exact ⟨Nat.le_of_ble_eq_true rfl,w_cmpI _ (mkTE_F rfl rfl) x0 x1⟩
theorem tr_orI:trFunc Try.prog 179000 [] Try.f81 = some { mf_cmp_Or_int with body:=erase mf_cmp_Or_int.body }:=by kernel_rfl
theorem nm_orI : (Try.f81.name == "runtime.NumGoroutine") = false := by kernel_rfl
theorem ps_orI:PSpec Try.prog id_cmp_Or_int F_orI:=pspec_of (mkTE_ok (PTl_ok (l:=[]) PTl_nil) (ETl_ok (l:=[]) ETl_nil)) mixed Try.func81 nm_orI tr_orI fun ds r h => by
  obtain ⟨x0,hds,hr⟩:=FF_inv h
  clear h
  subst hds
  obtain ⟨hc,rfl⟩:=onlyIf_inv hr
  exact ⟨Nat.le_of_ble_eq_true rfl,w_orI _  x0 hc⟩
theorem tr_clone:trFunc Try.prog 156000 [5] Try.f58 = some { mf_slices_Clone_int with body:=erase mf_slices_Clone_int.body }:=by kernel_rfl
theorem nm_clone : (Try.f58.name == "runtime.NumGoroutine") = false := by kernel_rfl
theorem ps_clone:PSpec Try.prog id_slices_Clone_int F_clone:=pspec_of (mkTE_ok (PTl_ok (l:=[]) PTl_nil) (ETl_ok (l:=[]) ETl_nil)) mixed Try.func58 nm_clone tr_clone fun ds r h => by
  obtain ⟨x0,hds,hr⟩:=FF_inv h
  clear h
  subst hds
  obtain ⟨hc,rfl⟩:=onlyIf_inv hr
  exact ⟨Nat.le_of_ble_eq_true rfl,w_clone _  x0 hc⟩
theorem tr_bigRight:trFunc Try.prog 136000 [] Try.f38 = some { mf_big_Right with body:=erase mf_big_Right.body }:=by kernel_rfl
theorem nm_bigRight : (Try.f38.name == "runtime.NumGoroutine") = false := by kernel_rfl
theorem ps_bigRight:PSpec Try.prog id_big_Right F_bigRight:=pspec_of (mkTE_ok (PTl_ok (l:=[]) PTl_nil) (ETl_ok (l:=[]) ETl_nil)) mixed Try.func38 nm_bigRight tr_bigRight fun ds r h => by
  obtain ⟨⟨x0,x1⟩,hds,hr⟩:=FF_inv h
  clear h
  subst hds
  obtain ⟨hc,rfl⟩:=onlyIf_inv hr
  exact ⟨Nat.le_of_ble_eq_true rfl,w_bigRight _  x0 x1 hc⟩
theorem tr_signed:trFunc Try.prog 158000 [] Try.f60 = some { mf_big_signed with body:=erase mf_big_signed.body }:=by kernel_rfl
theorem nm_signed : (Try.f60.name == "runtime.NumGoroutine") = false := by kernel_rfl
theorem ps_signed:PSpec Try.prog id_big_signed F_signed:=pspec_of (mkTE_ok (PTl_ok (l:=[(id_big_trim,F_trim)]) (PTl_cons ps_trim PTl_nil)) (ETl_ok (l:=[(id_big_trim,mkG G_trim)]) (ETl_cons es_trim ETl_nil))) mixed Try.func60 nm_signed tr_signed fun ds r h => by
  obtain ⟨⟨x0,x1⟩,hds,hr⟩:=FF_inv h
  clear h
  subst hds
  obtain ⟨hc,rfl⟩:=onlyIf_inv hr
  exact ⟨Nat.le_of_ble_eq_true rfl,w_signed _ (mkTE_FG rfl rfl) x0 x1 hc⟩
theorem tr_compare:trFunc Try.prog 175000 [] Try.f77 = some { mf_big_compare with body:=erase mf_big_compare.body }:=by kernel_rfl
theorem nm_compare : (Try.f77.name == "runtime.NumGoroutine") = false := by kernel_rfl
theorem ps_compare:PSpec Try.prog id_big_compare F_compare:=pspec_of (mkTE_ok (PTl_ok (l:=[(id_cmp_Compare_int,F_cmpI)]) (PTl_cons ps_cmpI PTl_nil)) (ETl_ok (l:=[]) ETl_nil)) mixed Try.func77 nm_compare tr_compare fun ds r h => by
  obtain ⟨⟨x0,x1⟩,hds,hr⟩:=FF_inv h
  clear h
  subst hds
  obtain ⟨hc,rfl⟩:=onlyIf_inv hr
  exact ⟨Nat.le_of_ble_eq_true rfl,w_compare _ (mkTE_F rfl rfl) x0 x1 hc⟩
theorem tr_add:trFunc Try.prog 172000 [] Try.f74 = some { mf_big_add with body:=erase mf_big_add.body }:=by kernel_rfl
theorem nm_add : (Try.f74.name == "runtime.NumGoroutine") = false := by kernel_rfl
theorem ps_add:PSpec Try.prog id_big_add F_add:=pspec_of (mkTE_ok (PTl_ok (l:=[(id_big_trim,F_trim)]) (PTl_cons ps_trim PTl_nil)) (ETl_ok (l:=[(id_big_trim,mkG G_trim)]) (ETl_cons es_trim ETl_nil))) mixed Try.func74 nm_add tr_add fun ds r h => by
  obtain ⟨⟨x0,x1⟩,hds,hr⟩:=FF_inv h
  clear h
  subst hds
  obtain ⟨hc,rfl⟩:=onlyIf_inv hr
  exact ⟨Nat.le_of_ble_eq_true rfl,w_add _ (mkTE_FG rfl rfl) x0 x1 hc⟩
theorem tr_sub:trFunc Try.prog 173000 [10] Try.f75 = some { mf_big_sub with body:=erase mf_big_sub.body }:=by kernel_rfl
theorem nm_sub : (Try.f75.name == "runtime.NumGoroutine") = false := by kernel_rfl
theorem ps_sub:PSpec Try.prog id_big_sub F_sub:=pspec_of (mkTE_ok (PTl_ok (l:=[(id_slices_Clone_int,F_clone),(id_big_trim,F_trim)]) (PTl_cons ps_clone (PTl_cons ps_trim PTl_nil))) (ETl_ok (l:=[(id_big_trim,mkG G_trim)]) (ETl_cons es_trim ETl_nil))) mixed Try.func75 nm_sub tr_sub fun ds r h => by
  obtain ⟨⟨x0,x1⟩,hds,hr⟩:=FF_inv h
  clear h
  subst hds
  obtain ⟨hc,rfl⟩:=onlyIf_inv hr
  exact ⟨Nat.le_of_ble_eq_true rfl,w_sub _ (mkTE_F rfl rfl) (mkTE_FG rfl rfl) x0 x1 hc⟩
theorem tr_mul:trFunc Try.prog 161000 [] Try.f63 = some { mf_big_mul with body:=erase mf_big_mul.body }:=by kernel_rfl
theorem nm_mul : (Try.f63.name == "runtime.NumGoroutine") = false := by kernel_rfl
theorem ps_mul:PSpec Try.prog id_big_mul F_mul:=pspec_of (mkTE_ok (PTl_ok (l:=[(id_big_trim,F_trim)]) (PTl_cons ps_trim PTl_nil)) (ETl_ok (l:=[(id_big_trim,mkG G_trim)]) (ETl_cons es_trim ETl_nil))) mixed Try.func63 nm_mul tr_mul fun ds r h => by
  obtain ⟨⟨x0,x1⟩,hds,hr⟩:=FF_inv h
  clear h
  subst hds
  obtain ⟨hc,rfl⟩:=onlyIf_inv hr
  exact ⟨Nat.le_of_ble_eq_true rfl,w_mul _ (mkTE_FG rfl rfl) x0 x1 hc⟩
theorem tr_short:trFunc Try.prog 176000 [] Try.f78 = some { mf_big_short with body:=erase mf_big_short.body }:=by kernel_rfl
theorem nm_short : (Try.f78.name == "runtime.NumGoroutine") = false := by kernel_rfl
theorem ps_short:PSpec Try.prog id_big_short F_short:=pspec_of (mkTE_ok (PTl_ok (l:=[(id_big_trim,F_trim)]) (PTl_cons ps_trim PTl_nil)) (ETl_ok (l:=[(id_big_trim,mkG G_trim)]) (ETl_cons es_trim ETl_nil))) mixed Try.func78 nm_short tr_short fun ds r h => by
  obtain ⟨⟨x0,x1⟩,hds,hr⟩:=FF_inv h
  clear h
  subst hds
  obtain ⟨hc,rfl⟩:=onlyIf_inv hr
  exact ⟨Nat.le_of_ble_eq_true rfl,w_short _ (mkTE_FG rfl rfl) x0 x1 hc⟩
theorem tr_settle:trFunc Try.prog 178000 [] Try.f80 = some { mf_big_settle with body:=erase mf_big_settle.body }:=by kernel_rfl
theorem nm_settle : (Try.f80.name == "runtime.NumGoroutine") = false := by kernel_rfl
theorem es_settle:ESpec Try.prog id_big_settle (mkG G_settle):=RSpec.toE (rspec_of (mkTE_ok (PTl_ok (l:=[]) PTl_nil) (ETl_ok (l:=[]) ETl_nil)) mixed Try.func80 nm_settle tr_settle fun args mem x h => by
  obtain ⟨a,⟨rfl,hc⟩,rfl⟩:=GG_inv h
  exact ⟨Nat.le_of_ble_eq_true rfl,w_settle _ a mem hc⟩)
theorem tr_div:trFunc Try.prog 157000 [54] Try.f59 = some { mf_big_div with body:=erase mf_big_div.body }:=by kernel_rfl
theorem nm_div : (Try.f59.name == "runtime.NumGoroutine") = false := by kernel_rfl
theorem ps_div:PSpec Try.prog id_big_div F_div:=pspec_of (mkTE_ok (PTl_ok (l:=[(id_big_compare,F_compare),(id_slices_Clone_int,F_clone),(id_big_short,F_short),(id_big_trim,F_trim),(id_big_mul,F_mul)]) (PTl_cons ps_compare (PTl_cons ps_clone (PTl_cons ps_short (PTl_cons ps_trim (PTl_cons ps_mul PTl_nil)))))) (ETl_ok (l:=[(id_big_trim,mkG G_trim),(id_big_settle,mkG G_settle)]) (ETl_cons es_trim (ETl_cons es_settle ETl_nil)))) mixed Try.func59 nm_div tr_div fun ds r h => by
  obtain ⟨⟨x0,x1⟩,hds,hr⟩:=FF_inv h
  clear h
  subst hds
  obtain ⟨hc,rfl⟩:=onlyIf_inv hr
  exact ⟨Nat.le_of_ble_eq_true rfl,w_div _ (mkTE_F rfl rfl) (mkTE_F rfl rfl) (mkTE_F rfl rfl) (mkTE_FG rfl rfl) (mkTE_F rfl rfl) (mkTE_E rfl rfl) x0 x1 hc⟩
theorem tr_checked:trFunc Try.prog 155000 [] Try.f57 = some { mf_big_checked with body:=erase mf_big_checked.body }:=by kernel_rfl
theorem nm_checked : (Try.f57.name == "runtime.NumGoroutine") = false := by kernel_rfl
theorem ps_checked:PSpec Try.prog id_big_checked F_checked:=pspec_of (mkTE_ok (PTl_ok (l:=[]) PTl_nil) (ETl_ok (l:=[]) ETl_nil)) mixed Try.func57 nm_checked tr_checked fun ds r h => by
  obtain ⟨⟨x0,x1,x2⟩,hds,hr⟩:=FF_inv h
  clear h
  subst hds
  obtain rfl:=Option.some.inj hr
  exact ⟨Nat.le_of_ble_eq_true rfl,w_checked _  x0 x1 x2⟩
theorem tr_Neg:trFunc Try.prog 152000 [] Try.f54 = some { mf_big_Neg with body:=erase mf_big_Neg.body }:=by kernel_rfl
theorem nm_Neg : (Try.f54.name == "runtime.NumGoroutine") = false := by kernel_rfl
theorem ps_Neg:PSpec Try.prog id_big_Neg F_Neg:=pspec_of (mkTE_ok (PTl_ok (l:=[(id_big_Right,F_bigRight),(id_slices_Clone_int,F_clone),(id_big_signed,F_signed)]) (PTl_cons ps_bigRight (PTl_cons ps_clone (PTl_cons ps_signed PTl_nil)))) (ETl_ok (l:=[]) ETl_nil)) mixed Try.func54 nm_Neg tr_Neg fun ds r h => by
  obtain ⟨⟨x0,x1⟩,hds,hr⟩:=FF_inv h
  clear h
  subst hds
  obtain ⟨hc,rfl⟩:=onlyIf_inv hr
  exact ⟨Nat.le_of_ble_eq_true rfl,w_Neg _ (mkTE_F rfl rfl) (mkTE_F rfl rfl) (mkTE_F rfl rfl) x0 x1 hc⟩
theorem tr_Mul:trFunc Try.prog 140000 [] Try.f42 = some { mf_big_Mul with body:=erase mf_big_Mul.body }:=by kernel_rfl
theorem nm_Mul : (Try.f42.name == "runtime.NumGoroutine") = false := by kernel_rfl
theorem ps_Mul:PSpec Try.prog id_big_Mul F_Mul:=pspec_of (mkTE_ok (PTl_ok (l:=[(id_big_Right,F_bigRight),(id_big_mul,F_mul),(id_big_signed,F_signed),(id_big_checked,F_checked)]) (PTl_cons ps_bigRight (PTl_cons ps_mul (PTl_cons ps_signed (PTl_cons ps_checked PTl_nil))))) (ETl_ok (l:=[]) ETl_nil)) mixed Try.func42 nm_Mul tr_Mul fun ds r h => by
  obtain ⟨⟨x0,x1,x2,x3⟩,hds,hr⟩:=FF_inv h
  clear h
  subst hds
  obtain ⟨hc,rfl⟩:=onlyIf_inv hr
  exact ⟨Nat.le_of_ble_eq_true rfl,w_Mul _ (mkTE_F rfl rfl) (mkTE_F rfl rfl) (mkTE_F rfl rfl) (mkTE_F rfl rfl) x0 x1 x2 x3 hc⟩
theorem tr_Add:trFunc Try.prog 160000 [] Try.f62 = some { mf_big_Add with body:=erase mf_big_Add.body }:=by kernel_rfl
theorem nm_Add : (Try.f62.name == "runtime.NumGoroutine") = false := by kernel_rfl
theorem ps_Add:PSpec Try.prog id_big_Add F_Add:=pspec_of (mkTE_ok (PTl_ok (l:=[(id_big_Right,F_bigRight),(id_cmp_Or_int,F_orI),(id_big_add,F_add),(id_big_sub,F_sub),(id_big_compare,F_compare),(id_big_signed,F_signed),(id_big_checked,F_checked)]) (PTl_cons ps_bigRight (PTl_cons ps_orI (PTl_cons ps_add (PTl_cons ps_sub (PTl_cons ps_compare (PTl_cons ps_signed (PTl_cons ps_checked PTl_nil)))))))) (ETl_ok (l:=[]) ETl_nil)) mixed Try.func62 nm_Add tr_Add fun ds r h => by
  obtain ⟨⟨x0,x1,x2,x3⟩,hds,hr⟩:=FF_inv h
  clear h
  subst hds
  obtain ⟨hc,rfl⟩:=onlyIf_inv hr
  exact ⟨Nat.le_of_ble_eq_true rfl,w_Add _ (mkTE_F rfl rfl) (mkTE_F rfl rfl) (mkTE_F rfl rfl) (mkTE_F rfl rfl) (mkTE_F rfl rfl) (mkTE_F rfl rfl) (mkTE_F rfl rfl) x0 x1 x2 x3 hc⟩
theorem tr_Compare:trFunc Try.prog 154000 [] Try.f56 = some { mf_big_Compare with body:=erase mf_big_Compare.body }:=by kernel_rfl
theorem nm_Compare : (Try.f56.name == "runtime.NumGoroutine") = false := by kernel_rfl
theorem ps_Compare:PSpec Try.prog id_big_Compare F_Compare:=pspec_of (mkTE_ok (PTl_ok (l:=[(id_big_Right,F_bigRight),(id_cmp_Compare_int,F_cmpI),(id_big_compare,F_compare)]) (PTl_cons ps_bigRight (PTl_cons ps_cmpI (PTl_cons ps_compare PTl_nil)))) (ETl_ok (l:=[]) ETl_nil)) mixed Try.func56 nm_Compare tr_Compare fun ds r h => by
  obtain ⟨⟨x0,x1,x2,x3⟩,hds,hr⟩:=FF_inv h
  clear h
  subst hds
  obtain ⟨hc,rfl⟩:=onlyIf_inv hr
  exact ⟨Nat.le_of_ble_eq_true rfl,w_Compare _ (mkTE_F rfl rfl) (mkTE_F rfl rfl) (mkTE_F rfl rfl) x0 x1 x2 x3 hc⟩
theorem tr_Gcd:trFunc Try.prog 137000 [] Try.f39 = some { mf_big_Gcd with body:=erase mf_big_Gcd.body }:=by kernel_rfl
theorem nm_Gcd : (Try.f39.name == "runtime.NumGoroutine") = false := by kernel_rfl
theorem ps_Gcd:PSpec Try.prog id_big_Gcd F_Gcd:=pspec_of (mkTE_ok (PTl_ok (l:=[(id_big_Right,F_bigRight),(id_slices_Clone_int,F_clone),(id_big_div,F_div),(id_big_signed,F_signed),(id_big_checked,F_checked)]) (PTl_cons ps_bigRight (PTl_cons ps_clone (PTl_cons ps_div (PTl_cons ps_signed (PTl_cons ps_checked PTl_nil)))))) (ETl_ok (l:=[]) ETl_nil)) mixed Try.func39 nm_Gcd tr_Gcd fun ds r h => by
  obtain ⟨⟨x0,x1,x2,x3⟩,hds,hr⟩:=FF_inv h
  clear h
  subst hds
  obtain ⟨hc,rfl⟩:=onlyIf_inv hr
  exact ⟨Nat.le_of_ble_eq_true rfl,w_Gcd _ (mkTE_F rfl rfl) (mkTE_F rfl rfl) (mkTE_F rfl rfl) (mkTE_F rfl rfl) (mkTE_F rfl rfl) x0 x1 x2 x3 hc⟩
theorem tr_Div:trFunc Try.prog 153000 [] Try.f55 = some { mf_big_Div with body:=erase mf_big_Div.body }:=by kernel_rfl
theorem nm_Div : (Try.f55.name == "runtime.NumGoroutine") = false := by kernel_rfl
theorem ps_Div:PSpec Try.prog id_big_Div F_Div:=pspec_of (mkTE_ok (PTl_ok (l:=[(id_big_Right,F_bigRight),(id_big_div,F_div),(id_big_add,F_add),(id_big_sub,F_sub),(id_big_signed,F_signed)]) (PTl_cons ps_bigRight (PTl_cons ps_div (PTl_cons ps_add (PTl_cons ps_sub (PTl_cons ps_signed PTl_nil)))))) (ETl_ok (l:=[]) ETl_nil)) mixed Try.func55 nm_Div tr_Div fun ds r h => by
  obtain ⟨⟨x0,x1,x2,x3⟩,hds,hr⟩:=FF_inv h
  clear h
  subst hds
  obtain ⟨hc,rfl⟩:=onlyIf_inv hr
  exact ⟨Nat.le_of_ble_eq_true rfl,w_Div _ (mkTE_F rfl rfl) (mkTE_F rfl rfl) (mkTE_F rfl rfl) (mkTE_F rfl rfl) (mkTE_F rfl rfl) x0 x1 x2 x3 hc⟩
theorem tr_bigOf:trFunc Try.prog 150000 [] Try.f52 = some { mf_big_Of with body:=erase mf_big_Of.body }:=by kernel_rfl
theorem nm_bigOf : (Try.f52.name == "runtime.NumGoroutine") = false := by kernel_rfl
theorem ps_bigOf:PSpec Try.prog id_big_Of F_bigOf:=pspec_of (mkTE_ok (PTl_ok (l:=[(id_big_signed,F_signed)]) (PTl_cons ps_signed PTl_nil)) (ETl_ok (l:=[]) ETl_nil)) mixed Try.func52 nm_bigOf tr_bigOf fun ds r h => by
  obtain ⟨x0,hds,hr⟩:=FF_inv h
  clear h
  subst hds
  obtain ⟨hc,rfl⟩:=onlyIf_inv hr
  exact ⟨Nat.le_of_ble_eq_true rfl,w_bigOf _ (mkTE_F rfl rfl) x0 hc⟩
theorem tr_bigInt:trFunc Try.prog 159000 [] Try.f61 = some { mf_big_Int with body:=erase mf_big_Int.body }:=by kernel_rfl
theorem nm_bigInt : (Try.f61.name == "runtime.NumGoroutine") = false := by kernel_rfl
theorem ps_bigInt:PSpec Try.prog id_big_Int F_bigInt:=pspec_of (mkTE_ok (PTl_ok (l:=[(id_big_Right,F_bigRight)]) (PTl_cons ps_bigRight PTl_nil)) (ETl_ok (l:=[]) ETl_nil)) mixed Try.func61 nm_bigInt tr_bigInt fun ds r h => by
  obtain ⟨⟨x0,x1⟩,hds,hr⟩:=FF_inv h
  clear h
  subst hds
  obtain ⟨hc,rfl⟩:=onlyIf_inv hr
  exact ⟨Nat.le_of_ble_eq_true rfl,w_bigInt _ (mkTE_F rfl rfl) x0 x1 hc⟩
theorem tr_fone:trFunc Try.prog 138000 [] Try.f40 = some { mf_frac_one with body:=erase mf_frac_one.body }:=by kernel_rfl
theorem nm_fone : (Try.f40.name == "runtime.NumGoroutine") = false := by kernel_rfl
theorem ps_fone:PSpec Try.prog id_frac_one F_fone:=pspec_of (mkTE_ok (PTl_ok (l:=[(id_big_Int,F_bigInt)]) (PTl_cons ps_bigInt PTl_nil)) (ETl_ok (l:=[]) ETl_nil)) mixed Try.func40 nm_fone tr_fone fun ds r h => by
  obtain ⟨⟨x0,x1⟩,hds,hr⟩:=FF_inv h
  clear h
  subst hds
  obtain ⟨hc,rfl⟩:=onlyIf_inv hr
  exact ⟨Nat.le_of_ble_eq_true rfl,w_fone _ (mkTE_F rfl rfl) x0 x1 hc⟩
theorem tr_fRight:trFunc Try.prog 116000 [] Try.f18 = some { mf_frac_Right with body:=erase mf_frac_Right.body }:=by kernel_rfl
theorem nm_fRight : (Try.f18.name == "runtime.NumGoroutine") = false := by kernel_rfl
theorem ps_fRight:PSpec Try.prog id_frac_Right F_fRight:=pspec_of (mkTE_ok (PTl_ok (l:=[(id_big_Right,F_bigRight),(id_big_Gcd,F_Gcd),(id_frac_one,F_fone)]) (PTl_cons ps_bigRight (PTl_cons ps_Gcd (PTl_cons ps_fone PTl_nil)))) (ETl_ok (l:=[]) ETl_nil)) mixed Try.func18 nm_fRight tr_fRight fun ds r h => by
  obtain ⟨⟨x0,x1,x2,x3⟩,hds,hr⟩:=FF_inv h
  clear h
  subst hds
  obtain ⟨hc,rfl⟩:=onlyIf_inv hr
  exact ⟨Nat.le_of_ble_eq_true rfl,w_fRight _ (mkTE_F rfl rfl) (mkTE_F rfl rfl) (mkTE_F rfl rfl) x0 x1 x2 x3 hc⟩
theorem tr_fNew:trFunc Try.prog 149000 [] Try.f51 = some { mf_frac_New with body:=erase mf_frac_New.body }:=by kernel_rfl
theorem nm_fNew : (Try.f51.name == "runtime.NumGoroutine") = false := by kernel_rfl
theorem ps_fNew:PSpec Try.prog id_frac_New F_fNew:=pspec_of (mkTE_ok (PTl_ok (l:=[(id_big_Right,F_bigRight),(id_big_Neg,F_Neg),(id_big_Gcd,F_Gcd),(id_big_Div,F_Div)]) (PTl_cons ps_bigRight (PTl_cons ps_Neg (PTl_cons ps_Gcd (PTl_cons ps_Div PTl_nil))))) (ETl_ok (l:=[]) ETl_nil)) mixed Try.func51 nm_fNew tr_fNew fun ds r h => by
  obtain ⟨⟨x0,x1,x2,x3⟩,hds,hr⟩:=FF_inv h
  clear h
  subst hds
  obtain ⟨hc,rfl⟩:=onlyIf_inv hr
  exact ⟨Nat.le_of_ble_eq_true rfl,w_fNew _ (mkTE_F rfl rfl) (mkTE_F rfl rfl) (mkTE_F rfl rfl) (mkTE_F rfl rfl) x0 x1 x2 x3 hc⟩
theorem tr_fOf:trFunc Try.prog 130000 [] Try.f32 = some { mf_frac_Of with body:=erase mf_frac_Of.body }:=by kernel_rfl
theorem nm_fOf : (Try.f32.name == "runtime.NumGoroutine") = false := by kernel_rfl
theorem ps_fOf:PSpec Try.prog id_frac_Of F_fOf:=pspec_of (mkTE_ok (PTl_ok (l:=[(id_big_Of,F_bigOf),(id_frac_New,F_fNew)]) (PTl_cons ps_bigOf (PTl_cons ps_fNew PTl_nil))) (ETl_ok (l:=[]) ETl_nil)) mixed Try.func32 nm_fOf tr_fOf fun ds r h => by
  obtain ⟨⟨x0,x1⟩,hds,hr⟩:=FF_inv h
  clear h
  subst hds
  obtain ⟨hc,rfl⟩:=onlyIf_inv hr
  exact ⟨Nat.le_of_ble_eq_true rfl,w_fOf _ (mkTE_F rfl rfl) (mkTE_F rfl rfl) x0 x1 hc⟩
theorem tr_fsum:trFunc Try.prog 139000 [] Try.f41 = some { mf_frac_sum with body:=erase mf_frac_sum.body }:=by kernel_rfl
theorem nm_fsum : (Try.f41.name == "runtime.NumGoroutine") = false := by kernel_rfl
theorem ps_fsum:PSpec Try.prog id_frac_sum F_fsum:=pspec_of (mkTE_ok (PTl_ok (l:=[(id_big_Mul,F_Mul),(id_big_Add,F_Add)]) (PTl_cons ps_Mul (PTl_cons ps_Add PTl_nil))) (ETl_ok (l:=[]) ETl_nil)) mixed Try.func41 nm_fsum tr_fsum fun ds r h => by
  obtain ⟨⟨x0,x1,x2,x3,x4,x5,x6,x7⟩,hds,hr⟩:=FF_inv h
  clear h
  subst hds
  obtain ⟨hc,rfl⟩:=onlyIf_inv hr
  exact ⟨Nat.le_of_ble_eq_true rfl,w_fsum _ (mkTE_F rfl rfl) (mkTE_F rfl rfl) x0 x1 x2 x3 x4 x5 x6 x7 hc⟩
theorem tr_fquot:trFunc Try.prog 141000 [] Try.f43 = some { mf_frac_quotient with body:=erase mf_frac_quotient.body }:=by kernel_rfl
theorem nm_fquot : (Try.f43.name == "runtime.NumGoroutine") = false := by kernel_rfl
theorem ps_fquot:PSpec Try.prog id_frac_quotient F_fquot:=pspec_of (mkTE_ok (PTl_ok (l:=[(id_frac_New,F_fNew)]) (PTl_cons ps_fNew PTl_nil)) (ETl_ok (l:=[]) ETl_nil)) mixed Try.func43 nm_fquot tr_fquot fun ds r h => by
  obtain ⟨⟨x0,x1,x2,x3,x4,x5⟩,hds,hr⟩:=FF_inv h
  clear h
  subst hds
  obtain ⟨hc,rfl⟩:=onlyIf_inv hr
  exact ⟨Nat.le_of_ble_eq_true rfl,w_fquot _ (mkTE_F rfl rfl) x0 x1 x2 x3 x4 x5 hc⟩
theorem tr_fAdd:trFunc Try.prog 119000 [] Try.f21 = some { mf_frac_Add with body:=erase mf_frac_Add.body }:=by kernel_rfl
theorem nm_fAdd : (Try.f21.name == "runtime.NumGoroutine") = false := by kernel_rfl
theorem ps_fAdd:PSpec Try.prog id_frac_Add F_fAdd:=pspec_of (mkTE_ok (PTl_ok (l:=[(id_frac_Right,F_fRight),(id_frac_sum,F_fsum),(id_big_Mul,F_Mul),(id_frac_quotient,F_fquot)]) (PTl_cons ps_fRight (PTl_cons ps_fsum (PTl_cons ps_Mul (PTl_cons ps_fquot PTl_nil))))) (ETl_ok (l:=[]) ETl_nil)) mixed Try.func21 nm_fAdd tr_fAdd fun ds r h => by
  obtain ⟨⟨x0,x1,x2,x3,x4,x5,x6,x7⟩,hds,hr⟩:=FF_inv h
  clear h
  subst hds
  obtain ⟨hc,rfl⟩:=onlyIf_inv hr
  exact ⟨Nat.le_of_ble_eq_true rfl,w_fAdd _ (mkTE_F rfl rfl) (mkTE_F rfl rfl) (mkTE_F rfl rfl) (mkTE_F rfl rfl) x0 x1 x2 x3 x4 x5 x6 x7 hc⟩
theorem tr_fSub:trFunc Try.prog 132000 [] Try.f34 = some { mf_frac_Sub with body:=erase mf_frac_Sub.body }:=by kernel_rfl
theorem nm_fSub : (Try.f34.name == "runtime.NumGoroutine") = false := by kernel_rfl
theorem ps_fSub:PSpec Try.prog id_frac_Sub F_fSub:=pspec_of (mkTE_ok (PTl_ok (l:=[(id_frac_Right,F_fRight),(id_big_Neg,F_Neg),(id_frac_Add,F_fAdd)]) (PTl_cons ps_fRight (PTl_cons ps_Neg (PTl_cons ps_fAdd PTl_nil)))) (ETl_ok (l:=[]) ETl_nil)) mixed Try.func34 nm_fSub tr_fSub fun ds r h => by
  obtain ⟨⟨x0,x1,x2,x3,x4,x5,x6,x7⟩,hds,hr⟩:=FF_inv h
  clear h
  subst hds
  obtain ⟨hc,rfl⟩:=onlyIf_inv hr
  exact ⟨Nat.le_of_ble_eq_true rfl,w_fSub _ (mkTE_F rfl rfl) (mkTE_F rfl rfl) (mkTE_F rfl rfl) x0 x1 x2 x3 x4 x5 x6 x7 hc⟩
theorem tr_fMul:trFunc Try.prog 134000 [] Try.f36 = some { mf_frac_Mul with body:=erase mf_frac_Mul.body }:=by kernel_rfl
theorem nm_fMul : (Try.f36.name == "runtime.NumGoroutine") = false := by kernel_rfl
theorem ps_fMul:PSpec Try.prog id_frac_Mul F_fMul:=pspec_of (mkTE_ok (PTl_ok (l:=[(id_frac_Right,F_fRight),(id_big_Mul,F_Mul),(id_frac_quotient,F_fquot)]) (PTl_cons ps_fRight (PTl_cons ps_Mul (PTl_cons ps_fquot PTl_nil)))) (ETl_ok (l:=[]) ETl_nil)) mixed Try.func36 nm_fMul tr_fMul fun ds r h => by
  obtain ⟨⟨x0,x1,x2,x3,x4,x5,x6,x7⟩,hds,hr⟩:=FF_inv h
  clear h
  subst hds
  obtain ⟨hc,rfl⟩:=onlyIf_inv hr
  exact ⟨Nat.le_of_ble_eq_true rfl,w_fMul _ (mkTE_F rfl rfl) (mkTE_F rfl rfl) (mkTE_F rfl rfl) x0 x1 x2 x3 x4 x5 x6 x7 hc⟩
theorem tr_fDiv:trFunc Try.prog 169000 [] Try.f71 = some { mf_frac_Div with body:=erase mf_frac_Div.body }:=by kernel_rfl
theorem nm_fDiv : (Try.f71.name == "runtime.NumGoroutine") = false := by kernel_rfl
theorem ps_fDiv:PSpec Try.prog id_frac_Div F_fDiv:=pspec_of (mkTE_ok (PTl_ok (l:=[(id_frac_Right,F_fRight),(id_big_Mul,F_Mul),(id_frac_quotient,F_fquot)]) (PTl_cons ps_fRight (PTl_cons ps_Mul (PTl_cons ps_fquot PTl_nil)))) (ETl_ok (l:=[]) ETl_nil)) mixed Try.func71 nm_fDiv tr_fDiv fun ds r h => by
  obtain ⟨⟨x0,x1,x2,x3,x4,x5,x6,x7⟩,hds,hr⟩:=FF_inv h
  clear h
  subst hds
  obtain ⟨hc,rfl⟩:=onlyIf_inv hr
  exact ⟨Nat.le_of_ble_eq_true rfl,w_fDiv _ (mkTE_F rfl rfl) (mkTE_F rfl rfl) (mkTE_F rfl rfl) x0 x1 x2 x3 x4 x5 x6 x7 hc⟩
theorem tr_fCompare:trFunc Try.prog 135000 [] Try.f37 = some { mf_frac_Compare with body:=erase mf_frac_Compare.body }:=by kernel_rfl
theorem nm_fCompare : (Try.f37.name == "runtime.NumGoroutine") = false := by kernel_rfl
theorem ps_fCompare:PSpec Try.prog id_frac_Compare F_fCompare:=pspec_of (mkTE_ok (PTl_ok (l:=[(id_frac_Right,F_fRight),(id_big_Div,F_Div),(id_big_Compare,F_Compare)]) (PTl_cons ps_fRight (PTl_cons ps_Div (PTl_cons ps_Compare PTl_nil)))) (ETl_ok (l:=[]) ETl_nil)) mixed Try.func37 nm_fCompare tr_fCompare fun ds r h => by
  obtain ⟨⟨x0,x1,x2,x3,x4,x5,x6,x7⟩,hds,hr⟩:=FF_inv h
  clear h
  subst hds
  obtain ⟨hc,rfl⟩:=onlyIf_inv hr
  exact ⟨Nat.le_of_ble_eq_true rfl,w_fCompare _ (mkTE_F rfl rfl) (mkTE_F rfl rfl) (mkTE_F rfl rfl) x0 x1 x2 x3 x4 x5 x6 x7 hc⟩
end Go.Mini
namespace Go.Mini
open Go Go.Proofs
set_option maxRecDepth 100000
theorem tr_wrong1:trFunc Try.prog 125000 [] Try.f27 = some { mf_linear_Right_1 with body:=erase mf_linear_Right_1.body }:=by kernel_rfl
theorem nm_wrong1 : (Try.f27.name == "runtime.NumGoroutine") = false := by kernel_rfl
theorem ps_wrong1:PSpec Try.prog id_linear_Right_1 F_wrong1:=pspec_of (mkTE_ok (PTl_ok (l:=[(id_frac_Right,F_fRight)]) (PTl_cons ps_fRight PTl_nil)) (ETl_ok (l:=[]) ETl_nil)) mixed Try.func27 nm_wrong1 tr_wrong1 fun ds r h => by
  obtain ⟨⟨x0,x1,x2,x3⟩,hds,hr⟩:=FF_inv h
  clear h
  subst hds
  obtain ⟨hc,rfl⟩:=onlyIf_inv hr
  exact ⟨Nat.le_of_ble_eq_true rfl,w_wrong1 _ (mkTE_F rfl rfl) x0 x1 x2 x3 hc⟩
theorem tr_wrong2:trFunc Try.prog 133000 [] Try.f35 = some { mf_linear_Check_1 with body:=erase mf_linear_Check_1.body }:=by kernel_rfl
theorem nm_wrong2 : (Try.f35.name == "runtime.NumGoroutine") = false := by kernel_rfl
theorem ps_wrong2:PSpec Try.prog id_linear_Check_1 F_wrong2:=pspec_of (mkTE_ok (PTl_ok (l:=[(id_frac_Right,F_fRight)]) (PTl_cons ps_fRight PTl_nil)) (ETl_ok (l:=[]) ETl_nil)) mixed Try.func35 nm_wrong2 tr_wrong2 fun ds r h => by
  obtain ⟨⟨x0,x1,x2,x3⟩,hds,hr⟩:=FF_inv h
  clear h
  subst hds
  obtain ⟨hc,rfl⟩:=onlyIf_inv hr
  exact ⟨Nat.le_of_ble_eq_true rfl,w_wrong2 _ (mkTE_F rfl rfl) x0 x1 x2 x3 hc⟩
theorem tr_ixFrac:trFunc Try.prog 146000 [] Try.f48 = some { mf_slices_IndexFunc_Frac with body:=erase mf_slices_IndexFunc_Frac.body }:=by kernel_rfl
theorem nm_ixFrac : (Try.f48.name == "runtime.NumGoroutine") = false := by kernel_rfl
theorem ps_ixFrac:PSpec Try.prog id_slices_IndexFunc_Frac F_ixFrac:=pspec_of (mkTE_ok (PTl_ok (l:=[(id_linear_Right_1,F_wrong1),(id_linear_Check_1,F_wrong2)]) (PTl_cons ps_wrong1 (PTl_cons ps_wrong2 PTl_nil))) (ETl_ok (l:=[]) ETl_nil)) mixed Try.func48 nm_ixFrac tr_ixFrac fun ds r h => by
  obtain ⟨⟨x0,x1⟩,hds,hr⟩:=FF_inv h
  clear h
  subst hds
  obtain ⟨hc,rfl⟩:=onlyIf_inv hr
  exact ⟨Nat.le_of_ble_eq_true rfl,w_ixFrac _ (mkTE_F rfl rfl) (mkTE_F rfl rfl) x0 x1 hc⟩
theorem tr_anyFrac:trFunc Try.prog 128000 [] Try.f30 = some { mf_slices_ContainsFunc_Frac with body:=erase mf_slices_ContainsFunc_Frac.body }:=by kernel_rfl
theorem nm_anyFrac : (Try.f30.name == "runtime.NumGoroutine") = false := by kernel_rfl
theorem ps_anyFrac:PSpec Try.prog id_slices_ContainsFunc_Frac F_anyFrac:=pspec_of (mkTE_ok (PTl_ok (l:=[(id_slices_IndexFunc_Frac,F_ixFrac)]) (PTl_cons ps_ixFrac PTl_nil)) (ETl_ok (l:=[]) ETl_nil)) mixed Try.func30 nm_anyFrac tr_anyFrac fun ds r h => by
  obtain ⟨⟨x0,x1⟩,hds,hr⟩:=FF_inv h
  clear h
  subst hds
  obtain ⟨hc,rfl⟩:=onlyIf_inv hr
  exact ⟨Nat.le_of_ble_eq_true rfl,w_anyFrac _ (mkTE_F rfl rfl) x0 x1 hc⟩
theorem tr_wrongRow:trFunc Try.prog 127000 [] Try.f29 = some { mf_linear_Right_2 with body:=erase mf_linear_Right_2.body }:=by kernel_rfl
theorem nm_wrongRow : (Try.f29.name == "runtime.NumGoroutine") = false := by kernel_rfl
theorem ps_wrongRow:PSpec Try.prog id_linear_Right_2 F_wrongRow:=pspec_of (mkTE_ok (PTl_ok (l:=[(id_linear_Right_1,F_wrong1),(id_slices_ContainsFunc_Frac,F_anyFrac)]) (PTl_cons ps_wrong1 (PTl_cons ps_anyFrac PTl_nil))) (ETl_ok (l:=[]) ETl_nil)) mixed Try.func29 nm_wrongRow tr_wrongRow fun ds r h => by
  obtain ⟨⟨x0,x1,x2,x3,x4,x5⟩,hds,hr⟩:=FF_inv h
  clear h
  subst hds
  obtain ⟨hc,rfl⟩:=onlyIf_inv hr
  exact ⟨Nat.le_of_ble_eq_true rfl,w_wrongRow _ (mkTE_F rfl rfl) (mkTE_F rfl rfl) x0 x1 x2 x3 x4 x5 hc⟩
theorem tr_ixRow:trFunc Try.prog 145000 [] Try.f47 = some { mf_slices_IndexFunc_Row with body:=erase mf_slices_IndexFunc_Row.body }:=by kernel_rfl
theorem nm_ixRow : (Try.f47.name == "runtime.NumGoroutine") = false := by kernel_rfl
theorem ps_ixRow:PSpec Try.prog id_slices_IndexFunc_Row F_ixRow:=pspec_of (mkTE_ok (PTl_ok (l:=[(id_linear_Right_2,F_wrongRow)]) (PTl_cons ps_wrongRow PTl_nil)) (ETl_ok (l:=[]) ETl_nil)) mixed Try.func47 nm_ixRow tr_ixRow fun ds r h => by
  obtain ⟨⟨x0,x1⟩,hds,hr⟩:=FF_inv h
  clear h
  subst hds
  obtain ⟨hc,rfl⟩:=onlyIf_inv hr
  exact ⟨Nat.le_of_ble_eq_true rfl,w_ixRow _ (mkTE_F rfl rfl) x0 x1 hc⟩
theorem tr_anyRow:trFunc Try.prog 126000 [] Try.f28 = some { mf_slices_ContainsFunc_Row with body:=erase mf_slices_ContainsFunc_Row.body }:=by kernel_rfl
theorem nm_anyRow : (Try.f28.name == "runtime.NumGoroutine") = false := by kernel_rfl
theorem ps_anyRow:PSpec Try.prog id_slices_ContainsFunc_Row F_anyRow:=pspec_of (mkTE_ok (PTl_ok (l:=[(id_slices_IndexFunc_Row,F_ixRow)]) (PTl_cons ps_ixRow PTl_nil)) (ETl_ok (l:=[]) ETl_nil)) mixed Try.func28 nm_anyRow tr_anyRow fun ds r h => by
  obtain ⟨⟨x0,x1⟩,hds,hr⟩:=FF_inv h
  clear h
  subst hds
  obtain ⟨hc,rfl⟩:=onlyIf_inv hr
  exact ⟨Nat.le_of_ble_eq_true rfl,w_anyRow _ (mkTE_F rfl rfl) x0 x1 hc⟩
theorem tr_linRight:trFunc Try.prog 108000 [] Try.f10 = some { mf_linear_Right with body:=erase mf_linear_Right.body }:=by kernel_rfl
theorem nm_linRight : (Try.f10.name == "runtime.NumGoroutine") = false := by kernel_rfl
theorem ps_linRight:PSpec Try.prog id_linear_Right F_linRight:=pspec_of (mkTE_ok (PTl_ok (l:=[(id_slices_ContainsFunc_Row,F_anyRow)]) (PTl_cons ps_anyRow PTl_nil)) (ETl_ok (l:=[]) ETl_nil)) mixed Try.func10 nm_linRight tr_linRight fun ds r h => by
  obtain ⟨⟨x0,x1⟩,hds,hr⟩:=FF_inv h
  clear h
  subst hds
  obtain ⟨hc,rfl⟩:=onlyIf_inv hr
  exact ⟨Nat.le_of_ble_eq_true rfl,w_linRight _ (mkTE_F rfl rfl) x0 x1 hc⟩
theorem tr_note:trFunc Try.prog 168000 [] Try.f70 = some { mf_linear_matrix_note with body:=erase mf_linear_matrix_note.body }:=by kernel_rfl
theorem nm_note : (Try.f70.name == "runtime.NumGoroutine") = false := by kernel_rfl
theorem es_note:ESpec Try.prog id_linear_matrix_note (mkU U_note):=espec_upd (mkTE_ok (PTl_ok (l:=[]) PTl_nil) (ETl_ok (l:=[]) ETl_nil)) mixed Try.func70 nm_note tr_note noteJ fun args mem r k g i d h => by
  obtain ⟨h1,h2,h3,h4,h5⟩:=w_note _ args mem r k g i d h
  exact ⟨h1,h2,h3,h4,h5⟩
theorem tr_zero:trFunc Try.prog 167000 [] Try.f69 = some { mf_linear_zero with body:=erase mf_linear_zero.body }:=by kernel_rfl
theorem nm_zero : (Try.f69.name == "runtime.NumGoroutine") = false := by kernel_rfl
theorem ps_zero:PSpec Try.prog id_linear_zero F_zero:=pspec_of (mkTE_ok (PTl_ok (l:=[]) PTl_nil) (ETl_ok (l:=[]) ETl_nil)) mixed Try.func69 nm_zero tr_zero fun ds r h => by
  obtain ⟨⟨x0,x1,x2,x3⟩,hds,hr⟩:=FF_inv h
  clear h
  subst hds
  obtain rfl:=Option.some.inj hr
  exact ⟨Nat.le_of_ble_eq_true rfl,w_zero _  x0 x1 x2 x3⟩
theorem tr_pivot:trFunc Try.prog 148000 [3000106,3000165,3000169] Try.f50 = some { mf_linear_matrix_pivot with body:=erase mf_linear_matrix_pivot.body }:=by kernel_rfl
theorem nm_pivot : (Try.f50.name == "runtime.NumGoroutine") = false := by kernel_rfl
theorem es_pivot:ESpec Try.prog id_linear_matrix_pivot (mkQ Q_pivot):=espec_rel (mkTE_ok (PTl_ok (l:=[(id_linear_zero,F_zero),(id_frac_Div,F_fDiv),(id_frac_Sub,F_fSub),(id_frac_Mul,F_fMul)]) (PTl_cons ps_zero (PTl_cons ps_fDiv (PTl_cons ps_fSub (PTl_cons ps_fMul PTl_nil))))) (ETl_ok (l:=[(id_linear_matrix_note,mkU U_note)]) (ETl_cons es_note ETl_nil))) mixed Try.func50 nm_pivot tr_pivot fun args mem R h => by
  obtain ⟨a,rfl,⟨h1,h2,h3,h4,h5,h6,h7⟩,rfl⟩:=Q_pivot_inv h
  exact ⟨Nat.le_of_ble_eq_true rfl,w_pivot _ (mkTE_F rfl rfl) (mkTE_E rfl rfl) (mkTE_F rfl rfl) (mkTE_F rfl rfl) (mkTE_F rfl rfl) a.go a.N a.rows a.r a.c mem h1 h2 h3 h4 h5 h6 h7⟩
theorem tr_cloneF:trFunc Try.prog 147000 [5] Try.f49 = some { mf_slices_Clone_Frac with body:=erase mf_slices_Clone_Frac.body }:=by kernel_rfl
theorem nm_cloneF : (Try.f49.name == "runtime.NumGoroutine") = false := by kernel_rfl
theorem ps_cloneF:PSpec Try.prog id_slices_Clone_Frac F_cloneF:=pspec_of (mkTE_ok (PTl_ok (l:=[]) PTl_nil) (ETl_ok (l:=[]) ETl_nil)) mixed Try.func49 nm_cloneF tr_cloneF fun ds r h => by
  obtain ⟨x0,hds,hr⟩:=FF_inv h
  clear h
  subst hds
  obtain ⟨hc,rfl⟩:=onlyIf_inv hr
  exact ⟨Nat.le_of_ble_eq_true rfl,w_cloneF _  x0 hc⟩
theorem tr_elim:trFunc Try.prog 129000 [29,34] Try.f31 = some { mf_linear_eliminated with body:=erase mf_linear_eliminated.body }:=by kernel_rfl
theorem nm_elim : (Try.f31.name == "runtime.NumGoroutine") = false := by kernel_rfl
theorem ps_elim:PSpec Try.prog id_linear_eliminated F_elim:=pspec_of (mkTE_ok (PTl_ok (l:=[(id_slices_Clone_Frac,F_cloneF)]) (PTl_cons ps_cloneF PTl_nil)) (ETl_ok (l:=[(id_linear_matrix_pivot,mkQ Q_pivot)]) (ETl_cons es_pivot ETl_nil))) mixed Try.func31 nm_elim tr_elim fun ds r h => by
  obtain ⟨⟨x0,x1,x2⟩,hds,hr⟩:=FF_inv h
  clear h
  subst hds
  obtain ⟨hc,rfl⟩:=onlyIf_inv hr
  exact ⟨Nat.le_of_ble_eq_true rfl,w_elim _ (mkTE_F rfl rfl) (mkTE_E rfl rfl) x0 x1 x2 hc⟩
theorem tr_linRank:trFunc Try.prog 121000 [] Try.f23 = some { mf_linear_Rank with body:=erase mf_linear_Rank.body }:=by kernel_rfl
theorem nm_linRank : (Try.f23.name == "runtime.NumGoroutine") = false := by kernel_rfl
theorem ps_linRank:PSpec Try.prog id_linear_Rank F_linRank:=pspec_of (mkTE_ok (PTl_ok (l:=[(id_linear_Right,F_linRight),(id_linear_eliminated,F_elim)]) (PTl_cons ps_linRight (PTl_cons ps_elim PTl_nil))) (ETl_ok (l:=[]) ETl_nil)) mixed Try.func23 nm_linRank tr_linRank fun ds r h => by
  obtain ⟨⟨x0,x1⟩,hds,hr⟩:=FF_inv h
  clear h
  subst hds
  obtain ⟨hc,rfl⟩:=onlyIf_inv hr
  exact ⟨Nat.le_of_ble_eq_true rfl,w_linRank _ (mkTE_F rfl rfl) (mkTE_F rfl rfl) x0 x1 hc⟩
theorem tr_linSolve:trFunc Try.prog 109000 [] Try.f11 = some { mf_linear_Solve with body:=erase mf_linear_Solve.body }:=by kernel_rfl
theorem nm_linSolve : (Try.f11.name == "runtime.NumGoroutine") = false := by kernel_rfl
theorem ps_linSolve:PSpec Try.prog id_linear_Solve F_linSolve:=pspec_of (mkTE_ok (PTl_ok (l:=[(id_linear_Right,F_linRight),(id_linear_eliminated,F_elim)]) (PTl_cons ps_linRight (PTl_cons ps_elim PTl_nil))) (ETl_ok (l:=[]) ETl_nil)) mixed Try.func11 nm_linSolve tr_linSolve fun ds r h => by
  obtain ⟨⟨x0,x1⟩,hds,hr⟩:=FF_inv h
  clear h
  subst hds
  obtain ⟨hc,rfl⟩:=onlyIf_inv hr
  exact ⟨Nat.le_of_ble_eq_true rfl,w_linSolve _ (mkTE_F rfl rfl) (mkTE_F rfl rfl) x0 x1 hc⟩
theorem tr_mul64:trFunc Try.prog 171000 [] Try.f73 = some { mf_math_bits_Mul64 with body:=erase mf_math_bits_Mul64.body }:=by kernel_rfl
theorem nm_mul64 : (Try.f73.name == "runtime.NumGoroutine") = false := by kernel_rfl
theorem ps_mul64:PSpec Try.prog id_math_bits_Mul64 F_mul64:=pspec_of (mkTE_ok (PTl_ok (l:=[]) PTl_nil) (ETl_ok (l:=[]) ETl_nil)) mixed Try.func73 nm_mul64 tr_mul64 fun ds r h => by
  obtain ⟨x0,hds,hr⟩:=FF_inv h
  clear h
  subst hds
  obtain ⟨hc,rfl⟩:=onlyIf_inv hr
  exact ⟨Nat.le_of_ble_eq_true rfl,w_mul64 _  x0 hc⟩
theorem tr_bmul:trFunc Try.prog 151000 [] Try.f53 = some { mf_math_bits_Mul with body:=erase mf_math_bits_Mul.body }:=by kernel_rfl
theorem nm_bmul : (Try.f53.name == "runtime.NumGoroutine") = false := by kernel_rfl
theorem ps_bmul:PSpec Try.prog id_math_bits_Mul F_bmul:=pspec_of (mkTE_ok (PTl_ok (l:=[(id_math_bits_Mul64,F_mul64)]) (PTl_cons ps_mul64 PTl_nil)) (ETl_ok (l:=[]) ETl_nil)) mixed Try.func53 nm_bmul tr_bmul fun ds r h => by
  obtain ⟨x0,hds,hr⟩:=FF_inv h
  clear h
  subst hds
  obtain ⟨hc,rfl⟩:=onlyIf_inv hr
  exact ⟨Nat.le_of_ble_eq_true rfl,w_bmul _ (mkTE_F rfl rfl) x0 hc⟩
theorem tr_repeatF:trFunc Try.prog 131000 [] Try.f33 = some { mf_slices_Repeat_Frac with body:=erase mf_slices_Repeat_Frac.body }:=by kernel_rfl
theorem nm_repeatF : (Try.f33.name == "runtime.NumGoroutine") = false := by kernel_rfl
theorem ps_repeatF:PSpec Try.prog id_slices_Repeat_Frac F_repeatF:=pspec_of (mkTE_ok (PTl_ok (l:=[(id_math_bits_Mul,F_bmul)]) (PTl_cons ps_bmul PTl_nil)) (ETl_ok (l:=[]) ETl_nil)) mixed Try.func33 nm_repeatF tr_repeatF fun ds r h => by
  obtain ⟨⟨x0,x1,x2,x3,x4⟩,hds,hr⟩:=FF_inv h
  clear h
  subst hds
  obtain ⟨hc,rfl⟩:=onlyIf_inv hr
  exact ⟨Nat.le_of_ble_eq_true rfl,w_repeatF _ (mkTE_F rfl rfl) x0 x1 x2 x3 x4 hc⟩
theorem tr_linKern:trFunc Try.prog 110000 [38] Try.f12 = some { mf_linear_Kernel with body:=erase mf_linear_Kernel.body }:=by kernel_rfl
theorem nm_linKern : (Try.f12.name == "runtime.NumGoroutine") = false := by kernel_rfl
theorem ps_linKern:PSpec Try.prog id_linear_Kernel F_linKern:=pspec_of (mkTE_ok (PTl_ok (l:=[(id_linear_Right,F_linRight),(id_linear_eliminated,F_elim),(id_frac_Of,F_fOf),(id_slices_Repeat_Frac,F_repeatF),(id_frac_Sub,F_fSub)]) (PTl_cons ps_linRight (PTl_cons ps_elim (PTl_cons ps_fOf (PTl_cons ps_repeatF (PTl_cons ps_fSub PTl_nil)))))) (ETl_ok (l:=[]) ETl_nil)) mixed Try.func12 nm_linKern tr_linKern fun ds r h => by
  obtain ⟨⟨x0,x1⟩,hds,hr⟩:=FF_inv h
  clear h
  subst hds
  obtain ⟨hc,rfl⟩:=onlyIf_inv hr
  exact ⟨Nat.le_of_ble_eq_true rfl,w_linKern _ (mkTE_F rfl rfl) (mkTE_F rfl rfl) (mkTE_F rfl rfl) (mkTE_F rfl rfl) (mkTE_F rfl rfl) x0 x1 hc⟩
theorem tr_linCheck:trFunc Try.prog 111000 [] Try.f13 = some { mf_linear_Check with body:=erase mf_linear_Check.body }:=by kernel_rfl
theorem nm_linCheck : (Try.f13.name == "runtime.NumGoroutine") = false := by kernel_rfl
theorem ps_linCheck:PSpec Try.prog id_linear_Check F_linCheck:=pspec_of (mkTE_ok (PTl_ok (l:=[(id_linear_Right,F_linRight),(id_slices_ContainsFunc_Frac,F_anyFrac),(id_frac_Of,F_fOf),(id_frac_Mul,F_fMul),(id_frac_Add,F_fAdd),(id_frac_Compare,F_fCompare)]) (PTl_cons ps_linRight (PTl_cons ps_anyFrac (PTl_cons ps_fOf (PTl_cons ps_fMul (PTl_cons ps_fAdd (PTl_cons ps_fCompare PTl_nil))))))) (ETl_ok (l:=[]) ETl_nil)) mixed Try.func13 nm_linCheck tr_linCheck fun ds r h => by
  obtain ⟨⟨x0,x1,x2⟩,hds,hr⟩:=FF_inv h
  clear h
  subst hds
  obtain ⟨hc,rfl⟩:=onlyIf_inv hr
  exact ⟨Nat.le_of_ble_eq_true rfl,w_linCheck _ (mkTE_F rfl rfl) (mkTE_F rfl rfl) (mkTE_F rfl rfl) (mkTE_F rfl rfl) (mkTE_F rfl rfl) (mkTE_F rfl rfl) x0 x1 x2 hc⟩
theorem tr_rtrim:trFunc Try.prog 183000 [18] Try.f85 = some { mf_ref04_trim with body:=erase mf_ref04_trim.body }:=by kernel_rfl
theorem nm_rtrim : (Try.f85.name == "runtime.NumGoroutine") = false := by kernel_rfl
theorem ps_rtrim:PSpec Try.prog id_ref04_trim F_rtrim:=pspec_of (mkTE_ok (PTl_ok (l:=[]) PTl_nil) (ETl_ok (l:=[]) ETl_nil)) mixed Try.func85 nm_rtrim tr_rtrim fun ds r h => by
  obtain ⟨x0,hds,hr⟩:=FF_inv h
  clear h
  subst hds
  obtain ⟨hc,rfl⟩:=onlyIf_inv hr
  exact ⟨Nat.le_of_ble_eq_true rfl,w_rtrim _  x0 hc⟩
theorem tr_rdigit:trFunc Try.prog 187000 [] Try.f89 = some { mf_ref04_digit with body:=erase mf_ref04_digit.body }:=by kernel_rfl
theorem nm_rdigit : (Try.f89.name == "runtime.NumGoroutine") = false := by kernel_rfl
theorem ps_rdigit:PSpec Try.prog id_ref04_digit F_rdigit:=pspec_of (mkTE_ok (PTl_ok (l:=[]) PTl_nil) (ETl_ok (l:=[]) ETl_nil)) mixed Try.func89 nm_rdigit tr_rdigit fun ds r h => by
  obtain ⟨⟨x0,x1⟩,hds,hr⟩:=FF_inv h
  clear h
  subst hds
  obtain ⟨hc,rfl⟩:=onlyIf_inv hr
  exact ⟨Nat.le_of_ble_eq_true rfl,w_rdigit _  x0 x1 hc⟩
theorem tr_rless:trFunc Try.prog 185000 [] Try.f87 = some { mf_ref04_less with body:=erase mf_ref04_less.body }:=by kernel_rfl
theorem nm_rless : (Try.f87.name == "runtime.NumGoroutine") = false := by kernel_rfl
theorem ps_rless:PSpec Try.prog id_ref04_less F_rless:=pspec_of (mkTE_ok (PTl_ok (l:=[(id_ref04_digit,F_rdigit)]) (PTl_cons ps_rdigit PTl_nil)) (ETl_ok (l:=[]) ETl_nil)) mixed Try.func87 nm_rless tr_rless fun ds r h => by
  obtain ⟨⟨x0,x1⟩,hds,hr⟩:=FF_inv h
  clear h
  subst hds
  obtain ⟨hc,rfl⟩:=onlyIf_inv hr
  exact ⟨Nat.le_of_ble_eq_true rfl,w_rless _ (mkTE_F rfl rfl) x0 x1 hc⟩
theorem tr_rplus:trFunc Try.prog 181000 [] Try.f83 = some { mf_ref04_plus with body:=erase mf_ref04_plus.body }:=by kernel_rfl
theorem nm_rplus : (Try.f83.name == "runtime.NumGoroutine") = false := by kernel_rfl
theorem ps_rplus:PSpec Try.prog id_ref04_plus F_rplus:=pspec_of (mkTE_ok (PTl_ok (l:=[(id_ref04_digit,F_rdigit),(id_ref04_trim,F_rtrim)]) (PTl_cons ps_rdigit (PTl_cons ps_rtrim PTl_nil))) (ETl_ok (l:=[]) ETl_nil)) mixed Try.func83 nm_rplus tr_rplus fun ds r h => by
  obtain ⟨⟨x0,x1⟩,hds,hr⟩:=FF_inv h
  clear h
  subst hds
  obtain ⟨hc,rfl⟩:=onlyIf_inv hr
  exact ⟨Nat.le_of_ble_eq_true rfl,w_rplus _ (mkTE_F rfl rfl) (mkTE_F rfl rfl) x0 x1 hc⟩
theorem tr_rminus:trFunc Try.prog 182000 [] Try.f84 = some { mf_ref04_minus with body:=erase mf_ref04_minus.body }:=by kernel_rfl
theorem nm_rminus : (Try.f84.name == "runtime.NumGoroutine") = false := by kernel_rfl
theorem ps_rminus:PSpec Try.prog id_ref04_minus F_rminus:=pspec_of (mkTE_ok (PTl_ok (l:=[(id_ref04_digit,F_rdigit),(id_ref04_trim,F_rtrim)]) (PTl_cons ps_rdigit (PTl_cons ps_rtrim PTl_nil))) (ETl_ok (l:=[]) ETl_nil)) mixed Try.func84 nm_rminus tr_rminus fun ds r h => by
  obtain ⟨⟨x0,x1⟩,hds,hr⟩:=FF_inv h
  clear h
  subst hds
  obtain ⟨hc,rfl⟩:=onlyIf_inv hr
  exact ⟨Nat.le_of_ble_eq_true rfl,w_rminus _ (mkTE_F rfl rfl) (mkTE_F rfl rfl) x0 x1 hc⟩
theorem tr_rtimes:trFunc Try.prog 186000 [] Try.f88 = some { mf_ref04_times with body:=erase mf_ref04_times.body }:=by kernel_rfl
theorem nm_rtimes : (Try.f88.name == "runtime.NumGoroutine") = false := by kernel_rfl
theorem ps_rtimes:PSpec Try.prog id_ref04_times F_rtimes:=pspec_of (mkTE_ok (PTl_ok (l:=[(id_ref04_digit,F_rdigit),(id_ref04_trim,F_rtrim)]) (PTl_cons ps_rdigit (PTl_cons ps_rtrim PTl_nil))) (ETl_ok (l:=[]) ETl_nil)) mixed Try.func88 nm_rtimes tr_rtimes fun ds r h => by
  obtain ⟨⟨x0,x1⟩,hds,hr⟩:=FF_inv h
  clear h
  subst hds
  obtain ⟨hc,rfl⟩:=onlyIf_inv hr
  exact ⟨Nat.le_of_ble_eq_true rfl,w_rtimes _ (mkTE_F rfl rfl) (mkTE_F rfl rfl) x0 x1 hc⟩
theorem tr_rover:trFunc Try.prog 180000 [26] Try.f82 = some { mf_ref04_over with body:=erase mf_ref04_over.body }:=by kernel_rfl
theorem nm_rover : (Try.f82.name == "runtime.NumGoroutine") = false := by kernel_rfl
theorem ps_rover:PSpec Try.prog id_ref04_over F_rover:=pspec_of (mkTE_ok (PTl_ok (l:=[(id_ref04_trim,F_rtrim),(id_ref04_times,F_rtimes),(id_ref04_less,F_rless),(id_ref04_minus,F_rminus)]) (PTl_cons ps_rtrim (PTl_cons ps_rtimes (PTl_cons ps_rless (PTl_cons ps_rminus PTl_nil))))) (ETl_ok (l:=[]) ETl_nil)) mixed Try.func82 nm_rover tr_rover fun ds r h => by
  obtain ⟨⟨x0,x1⟩,hds,hr⟩:=FF_inv h
  clear h
  subst hds
  obtain ⟨hc,rfl⟩:=onlyIf_inv hr
  exact ⟨Nat.le_of_ble_eq_true rfl,w_rover _ (mkTE_F rfl rfl) (mkTE_F rfl rfl) (mkTE_F rfl rfl) (mkTE_F rfl rfl) x0 x1 hc⟩
theorem tr_rmade:trFunc Try.prog 166000 [] Try.f68 = some { mf_ref04_made with body:=erase mf_ref04_made.body }:=by kernel_rfl
theorem nm_rmade : (Try.f68.name == "runtime.NumGoroutine") = false := by kernel_rfl
theorem ps_rmade:PSpec Try.prog id_ref04_made F_rmade:=pspec_of (mkTE_ok (PTl_ok (l:=[(id_ref04_trim,F_rtrim)]) (PTl_cons ps_rtrim PTl_nil)) (ETl_ok (l:=[]) ETl_nil)) mixed Try.func68 nm_rmade tr_rmade fun ds r h => by
  obtain ⟨⟨x0,x1⟩,hds,hr⟩:=FF_inv h
  clear h
  subst hds
  obtain ⟨hc,rfl⟩:=onlyIf_inv hr
  exact ⟨Nat.le_of_ble_eq_true rfl,w_rmade _ (mkTE_F rfl rfl) x0 x1 hc⟩
theorem tr_rRight:trFunc Try.prog 162000 [] Try.f64 = some { mf_ref04_Right with body:=erase mf_ref04_Right.body }:=by kernel_rfl
theorem nm_rRight : (Try.f64.name == "runtime.NumGoroutine") = false := by kernel_rfl
theorem ps_rRight:PSpec Try.prog id_ref04_Right F_rRight:=pspec_of (mkTE_ok (PTl_ok (l:=[]) PTl_nil) (ETl_ok (l:=[]) ETl_nil)) mixed Try.func64 nm_rRight tr_rRight fun ds r h => by
  obtain ⟨⟨x0,x1⟩,hds,hr⟩:=FF_inv h
  clear h
  subst hds
  obtain ⟨hc,rfl⟩:=onlyIf_inv hr
  exact ⟨Nat.le_of_ble_eq_true rfl,w_rRight _  x0 x1 hc⟩
theorem tr_rNeg:trFunc Try.prog 163000 [] Try.f65 = some { mf_ref04_Neg with body:=erase mf_ref04_Neg.body }:=by kernel_rfl
theorem nm_rNeg : (Try.f65.name == "runtime.NumGoroutine") = false := by kernel_rfl
theorem ps_rNeg:PSpec Try.prog id_ref04_Neg F_rNeg:=pspec_of (mkTE_ok (PTl_ok (l:=[(id_ref04_Right,F_rRight),(id_ref04_made,F_rmade)]) (PTl_cons ps_rRight (PTl_cons ps_rmade PTl_nil))) (ETl_ok (l:=[]) ETl_nil)) mixed Try.func65 nm_rNeg tr_rNeg fun ds r h => by
  obtain ⟨⟨x0,x1⟩,hds,hr⟩:=FF_inv h
  clear h
  subst hds
  obtain ⟨hc,rfl⟩:=onlyIf_inv hr
  exact ⟨Nat.le_of_ble_eq_true rfl,w_rNeg _ (mkTE_F rfl rfl) (mkTE_F rfl rfl) x0 x1 hc⟩
theorem tr_rOf:trFunc Try.prog 144000 [] Try.f46 = some { mf_ref04_Of with body:=erase mf_ref04_Of.body }:=by kernel_rfl
theorem nm_rOf : (Try.f46.name == "runtime.NumGoroutine") = false := by kernel_rfl
theorem ps_rOf:PSpec Try.prog id_ref04_Of F_rOf:=pspec_of (mkTE_ok (PTl_ok (l:=[(id_ref04_made,F_rmade)]) (PTl_cons ps_rmade PTl_nil)) (ETl_ok (l:=[]) ETl_nil)) mixed Try.func46 nm_rOf tr_rOf fun ds r h => by
  obtain ⟨x0,hds,hr⟩:=FF_inv h
  clear h
  subst hds
  obtain ⟨hc,rfl⟩:=onlyIf_inv hr
  exact ⟨Nat.le_of_ble_eq_true rfl,w_rOf _ (mkTE_F rfl rfl) x0 hc⟩
theorem tr_rGcd:trFunc Try.prog 164000 [] Try.f66 = some { mf_ref04_Gcd with body:=erase mf_ref04_Gcd.body }:=by kernel_rfl
theorem nm_rGcd : (Try.f66.name == "runtime.NumGoroutine") = false := by kernel_rfl
theorem ps_rGcd:PSpec Try.prog id_ref04_Gcd F_rGcd:=pspec_of (mkTE_ok (PTl_ok (l:=[(id_ref04_Right,F_rRight),(id_ref04_over,F_rover),(id_ref04_made,F_rmade)]) (PTl_cons ps_rRight (PTl_cons ps_rover (PTl_cons ps_rmade PTl_nil)))) (ETl_ok (l:=[]) ETl_nil)) mixed Try.func66 nm_rGcd tr_rGcd fun ds r h => by
  obtain ⟨⟨x0,x1,x2,x3⟩,hds,hr⟩:=FF_inv h
  clear h
  subst hds
  obtain ⟨hc,rfl⟩:=onlyIf_inv hr
  exact ⟨Nat.le_of_ble_eq_true rfl,w_rGcd _ (mkTE_F rfl rfl) (mkTE_F rfl rfl) (mkTE_F rfl rfl) x0 x1 x2 x3 hc⟩
theorem tr_rDiv:trFunc Try.prog 165000 [] Try.f67 = some { mf_ref04_Div with body:=erase mf_ref04_Div.body }:=by kernel_rfl
theorem nm_rDiv : (Try.f67.name == "runtime.NumGoroutine") = false := by kernel_rfl
theorem ps_rDiv:PSpec Try.prog id_ref04_Div F_rDiv:=pspec_of (mkTE_ok (PTl_ok (l:=[(id_ref04_Right,F_rRight),(id_ref04_over,F_rover),(id_ref04_plus,F_rplus),(id_ref04_minus,F_rminus),(id_ref04_made,F_rmade)]) (PTl_cons ps_rRight (PTl_cons ps_rover (PTl_cons ps_rplus (PTl_cons ps_rminus (PTl_cons ps_rmade PTl_nil)))))) (ETl_ok (l:=[]) ETl_nil)) mixed Try.func67 nm_rDiv tr_rDiv fun ds r h => by
  obtain ⟨⟨x0,x1,x2,x3⟩,hds,hr⟩:=FF_inv h
  clear h
  subst hds
  obtain ⟨hc,rfl⟩:=onlyIf_inv hr
  exact ⟨Nat.le_of_ble_eq_true rfl,w_rDiv _ (mkTE_F rfl rfl) (mkTE_F rfl rfl) (mkTE_F rfl rfl) (mkTE_F rfl rfl) (mkTE_F rfl rfl) x0 x1 x2 x3 hc⟩
theorem tr_gNew:trFunc Try.prog 143000 [] Try.f45 = some { mf_ref05_New with body:=erase mf_ref05_New.body }:=by kernel_rfl
theorem nm_gNew : (Try.f45.name == "runtime.NumGoroutine") = false := by kernel_rfl
theorem ps_gNew:PSpec Try.prog id_ref05_New F_gNew:=pspec_of (mkTE_ok (PTl_ok (l:=[(id_ref04_Right,F_rRight),(id_ref04_Neg,F_rNeg),(id_ref04_Gcd,F_rGcd),(id_ref04_Div,F_rDiv)]) (PTl_cons ps_rRight (PTl_cons ps_rNeg (PTl_cons ps_rGcd (PTl_cons ps_rDiv PTl_nil))))) (ETl_ok (l:=[]) ETl_nil)) mixed Try.func45 nm_gNew tr_gNew fun ds r h => by
  obtain ⟨⟨x0,x1,x2,x3⟩,hds,hr⟩:=FF_inv h
  clear h
  subst hds
  obtain ⟨hc,rfl⟩:=onlyIf_inv hr
  exact ⟨Nat.le_of_ble_eq_true rfl,w_gNew _ (mkTE_F rfl rfl) (mkTE_F rfl rfl) (mkTE_F rfl rfl) (mkTE_F rfl rfl) x0 x1 x2 x3 hc⟩
theorem tr_gOf:trFunc Try.prog 124000 [] Try.f26 = some { mf_ref05_Of with body:=erase mf_ref05_Of.body }:=by kernel_rfl
theorem nm_gOf : (Try.f26.name == "runtime.NumGoroutine") = false := by kernel_rfl
theorem ps_gOf:PSpec Try.prog id_ref05_Of F_gOf:=pspec_of (mkTE_ok (PTl_ok (l:=[(id_ref04_Of,F_rOf),(id_ref05_New,F_gNew)]) (PTl_cons ps_rOf (PTl_cons ps_gNew PTl_nil))) (ETl_ok (l:=[]) ETl_nil)) mixed Try.func26 nm_gOf tr_gOf fun ds r h => by
  obtain ⟨⟨x0,x1⟩,hds,hr⟩:=FF_inv h
  clear h
  subst hds
  obtain ⟨hc,rfl⟩:=onlyIf_inv hr
  exact ⟨Nat.le_of_ble_eq_true rfl,w_gOf _ (mkTE_F rfl rfl) (mkTE_F rfl rfl) x0 x1 hc⟩
theorem tr_gSameBig:trFunc Try.prog 142000 [] Try.f44 = some { mf_ref05_SameBig with body:=erase mf_ref05_SameBig.body }:=by kernel_rfl
theorem nm_gSameBig : (Try.f44.name == "runtime.NumGoroutine") = false := by kernel_rfl
theorem ps_gSameBig:PSpec Try.prog id_ref05_SameBig F_gSameBig:=pspec_of (mkTE_ok (PTl_ok (l:=[]) PTl_nil) (ETl_ok (l:=[]) ETl_nil)) mixed Try.func44 nm_gSameBig tr_gSameBig fun ds r h => by
  obtain ⟨⟨x0,x1,x2,x3⟩,hds,hr⟩:=FF_inv h
  clear h
  subst hds
  obtain ⟨hc,rfl⟩:=onlyIf_inv hr
  exact ⟨Nat.le_of_ble_eq_true rfl,w_gSameBig _  x0 x1 x2 x3 hc⟩
theorem tr_gSame:trFunc Try.prog 120000 [] Try.f22 = some { mf_ref05_Same with body:=erase mf_ref05_Same.body }:=by kernel_rfl
theorem nm_gSame : (Try.f22.name == "runtime.NumGoroutine") = false := by kernel_rfl
theorem ps_gSame:PSpec Try.prog id_ref05_Same F_gSame:=pspec_of (mkTE_ok (PTl_ok (l:=[(id_ref05_SameBig,F_gSameBig)]) (PTl_cons ps_gSameBig PTl_nil)) (ETl_ok (l:=[]) ETl_nil)) mixed Try.func22 nm_gSame tr_gSame fun ds r h => by
  obtain ⟨⟨x0,x1,x2,x3,x4,x5,x6,x7⟩,hds,hr⟩:=FF_inv h
  clear h
  subst hds
  obtain ⟨hc,rfl⟩:=onlyIf_inv hr
  exact ⟨Nat.le_of_ble_eq_true rfl,w_gSame _ (mkTE_F rfl rfl) x0 x1 x2 x3 x4 x5 x6 x7 hc⟩
theorem tr_gFew:trFunc Try.prog 115000 [] Try.f17 = some { mf_ref05_Few with body:=erase mf_ref05_Few.body }:=by kernel_rfl
theorem nm_gFew : (Try.f17.name == "runtime.NumGoroutine") = false := by kernel_rfl
theorem ps_gFew:PSpec Try.prog id_ref05_Few F_gFew:=pspec_of (mkTE_ok (PTl_ok (l:=[]) PTl_nil) (ETl_ok (l:=[]) ETl_nil)) mixed Try.func17 nm_gFew tr_gFew fun ds r h => by
  obtain ⟨⟨x0,x1,x2,x3,x4⟩,hds,hr⟩:=FF_inv h
  clear h
  subst hds
  obtain rfl:=Option.some.inj hr
  exact ⟨Nat.le_of_ble_eq_true rfl,w_gFew _  x0 x1 x2 x3 x4⟩
theorem tr_hZero:trFunc Try.prog 113000 [] Try.f15 = some { mf_ref06_Zero with body:=erase mf_ref06_Zero.body }:=by kernel_rfl
theorem nm_hZero : (Try.f15.name == "runtime.NumGoroutine") = false := by kernel_rfl
theorem ps_hZero:PSpec Try.prog id_ref06_Zero F_hZero:=pspec_of (mkTE_ok (PTl_ok (l:=[]) PTl_nil) (ETl_ok (l:=[]) ETl_nil)) mixed Try.func15 nm_hZero tr_hZero fun ds r h => by
  obtain ⟨⟨x0,x1,x2,x3⟩,hds,hr⟩:=FF_inv h
  clear h
  subst hds
  obtain rfl:=Option.some.inj hr
  exact ⟨Nat.le_of_ble_eq_true rfl,w_hZero _  x0 x1 x2 x3⟩
theorem tr_hFewFracs:trFunc Try.prog 107000 [] Try.f9 = some { mf_ref06_FewFracs with body:=erase mf_ref06_FewFracs.body }:=by kernel_rfl
theorem nm_hFewFracs : (Try.f9.name == "runtime.NumGoroutine") = false := by kernel_rfl
theorem ps_hFewFracs:PSpec Try.prog id_ref06_FewFracs F_hFewFracs:=pspec_of (mkTE_ok (PTl_ok (l:=[(id_ref05_Few,F_gFew)]) (PTl_cons ps_gFew PTl_nil)) (ETl_ok (l:=[]) ETl_nil)) mixed Try.func9 nm_hFewFracs tr_hFewFracs fun ds r h => by
  obtain ⟨⟨x0,x1,x2⟩,hds,hr⟩:=FF_inv h
  clear h
  subst hds
  obtain ⟨hc,rfl⟩:=onlyIf_inv hr
  exact ⟨Nat.le_of_ble_eq_true rfl,w_hFewFracs _ (mkTE_F rfl rfl) x0 x1 x2 hc⟩
theorem tr_hFew:trFunc Try.prog 106000 [] Try.f8 = some { mf_ref06_Few with body:=erase mf_ref06_Few.body }:=by kernel_rfl
theorem nm_hFew : (Try.f8.name == "runtime.NumGoroutine") = false := by kernel_rfl
theorem ps_hFew:PSpec Try.prog id_ref06_Few F_hFew:=pspec_of (mkTE_ok (PTl_ok (l:=[(id_ref06_FewFracs,F_hFewFracs),(id_ref05_Few,F_gFew)]) (PTl_cons ps_hFewFracs (PTl_cons ps_gFew PTl_nil))) (ETl_ok (l:=[]) ETl_nil)) mixed Try.func8 nm_hFew tr_hFew fun ds r h => by
  obtain ⟨⟨x0,x1,x2⟩,hds,hr⟩:=FF_inv h
  clear h
  subst hds
  obtain ⟨hc,rfl⟩:=onlyIf_inv hr
  exact ⟨Nat.le_of_ble_eq_true rfl,w_hFew _ (mkTE_F rfl rfl) (mkTE_F rfl rfl) x0 x1 x2 hc⟩
theorem tr_hSame:trFunc Try.prog 112000 [] Try.f14 = some { mf_ref06_Same with body:=erase mf_ref06_Same.body }:=by kernel_rfl
theorem nm_hSame : (Try.f14.name == "runtime.NumGoroutine") = false := by kernel_rfl
theorem ps_hSame:PSpec Try.prog id_ref06_Same F_hSame:=pspec_of (mkTE_ok (PTl_ok (l:=[(id_ref05_Same,F_gSame)]) (PTl_cons ps_gSame PTl_nil)) (ETl_ok (l:=[]) ETl_nil)) mixed Try.func14 nm_hSame tr_hSame fun ds r h => by
  obtain ⟨⟨x0,x1⟩,hds,hr⟩:=FF_inv h
  clear h
  subst hds
  obtain ⟨hc,rfl⟩:=onlyIf_inv hr
  exact ⟨Nat.le_of_ble_eq_true rfl,w_hSame _ (mkTE_F rfl rfl) x0 x1 hc⟩
theorem tr_wnum:trFunc Try.prog 122000 [] Try.f24 = some { mf_law06_number with body:=erase mf_law06_number.body }:=by kernel_rfl
theorem nm_wnum : (Try.f24.name == "runtime.NumGoroutine") = false := by kernel_rfl
theorem ps_wnum:PSpec Try.prog id_law06_number F_wnum:=pspec_of (mkTE_ok (PTl_ok (l:=[(id_ref05_Of,F_gOf)]) (PTl_cons ps_gOf PTl_nil)) (ETl_ok (l:=[]) ETl_nil)) mixed Try.func24 nm_wnum tr_wnum fun ds r h => by
  obtain ⟨x0,hds,hr⟩:=FF_inv h
  clear h
  subst hds
  obtain ⟨hc,rfl⟩:=onlyIf_inv hr
  exact ⟨Nat.le_of_ble_eq_true rfl,w_wnum _ (mkTE_F rfl rfl) x0 hc⟩
theorem tr_wrow:trFunc Try.prog 123000 [] Try.f25 = some { mf_law06_row with body:=erase mf_law06_row.body }:=by kernel_rfl
theorem nm_wrow : (Try.f25.name == "runtime.NumGoroutine") = false := by kernel_rfl
theorem ps_wrow:PSpec Try.prog id_law06_row F_wrow:=pspec_of (mkTE_ok (PTl_ok (l:=[(id_law06_number,F_wnum)]) (PTl_cons ps_wnum PTl_nil)) (ETl_ok (l:=[]) ETl_nil)) mixed Try.func25 nm_wrow tr_wrow fun ds r h => by
  obtain ⟨x0,hds,hr⟩:=FF_inv h
  clear h
  subst hds
  obtain ⟨hc,rfl⟩:=onlyIf_inv hr
  exact ⟨Nat.le_of_ble_eq_true rfl,w_wrow _ (mkTE_F rfl rfl) x0 hc⟩
theorem tr_whom:trFunc Try.prog 114000 [] Try.f16 = some { mf_law06_homogeneous with body:=erase mf_law06_homogeneous.body }:=by kernel_rfl
theorem nm_whom : (Try.f16.name == "runtime.NumGoroutine") = false := by kernel_rfl
theorem ps_whom:PSpec Try.prog id_law06_homogeneous F_whom:=pspec_of (mkTE_ok (PTl_ok (l:=[(id_law06_number,F_wnum)]) (PTl_cons ps_wnum PTl_nil)) (ETl_ok (l:=[]) ETl_nil)) mixed Try.func16 nm_whom tr_whom fun ds r h => by
  obtain ⟨x0,hds,hr⟩:=FF_inv h
  clear h
  subst hds
  obtain ⟨hc,rfl⟩:=onlyIf_inv hr
  exact ⟨Nat.le_of_ble_eq_true rfl,w_whom _ (mkTE_F rfl rfl) x0 hc⟩
theorem tr_wsmall:trFunc Try.prog 105000 [] Try.f7 = some { mf_law06_small with body:=erase mf_law06_small.body }:=by kernel_rfl
theorem nm_wsmall : (Try.f7.name == "runtime.NumGoroutine") = false := by kernel_rfl
theorem ps_wsmall:PSpec Try.prog id_law06_small F_wsmall:=pspec_of (mkTE_ok (PTl_ok (l:=[(id_law06_row,F_wrow),(id_law06_number,F_wnum),(id_linear_Solve,F_linSolve),(id_linear_Kernel,F_linKern),(id_linear_Rank,F_linRank),(id_linear_Check,F_linCheck),(id_linear_Right,F_linRight),(id_ref05_Of,F_gOf),(id_ref06_Same,F_hSame)]) (PTl_cons ps_wrow (PTl_cons ps_wnum (PTl_cons ps_linSolve (PTl_cons ps_linKern (PTl_cons ps_linRank (PTl_cons ps_linCheck (PTl_cons ps_linRight (PTl_cons ps_gOf (PTl_cons ps_hSame PTl_nil)))))))))) (ETl_ok (l:=[]) ETl_nil)) mixed Try.func7 nm_wsmall tr_wsmall fun ds r h => by
  obtain ⟨_,hds,hr⟩:=FF_inv h
  clear h
  subst hds
  obtain rfl:=Option.some.inj hr
  exact ⟨Nat.le_of_ble_eq_true rfl,w_wsmall _ (mkTE_F rfl rfl) (mkTE_F rfl rfl) (mkTE_F rfl rfl) (mkTE_F rfl rfl) (mkTE_F rfl rfl) (mkTE_F rfl rfl) (mkTE_F rfl rfl) (mkTE_F rfl rfl) (mkTE_F rfl rfl) ⟩
theorem tr_wOnly:trFunc Try.prog 101000 [] Try.f3 = some { mf_law06_LinearOnly with body:=erase mf_law06_LinearOnly.body }:=by kernel_rfl
theorem nm_wOnly : (Try.f3.name == "runtime.NumGoroutine") = false := by kernel_rfl
theorem ps_wOnly:PSpec Try.prog id_law06_LinearOnly F_wOnly:=pspec_of (mkTE_ok (PTl_ok (l:=[(id_law06_small,F_wsmall),(id_ref06_Few,F_hFew),(id_ref06_FewFracs,F_hFewFracs),(id_linear_Right,F_linRight),(id_linear_Solve,F_linSolve),(id_linear_Kernel,F_linKern),(id_linear_Check,F_linCheck),(id_ref06_Same,F_hSame),(id_ref06_Zero,F_hZero),(id_law06_homogeneous,F_whom)]) (PTl_cons ps_wsmall (PTl_cons ps_hFew (PTl_cons ps_hFewFracs (PTl_cons ps_linRight (PTl_cons ps_linSolve (PTl_cons ps_linKern (PTl_cons ps_linCheck (PTl_cons ps_hSame (PTl_cons ps_hZero (PTl_cons ps_whom PTl_nil))))))))))) (ETl_ok (l:=[]) ETl_nil)) mixed Try.func3 nm_wOnly tr_wOnly fun ds r h => by
  obtain ⟨⟨x0,x1⟩,hds,hr⟩:=FF_inv h
  clear h
  subst hds
  obtain ⟨hc,rfl⟩:=onlyIf_inv hr
  exact ⟨Nat.le_of_ble_eq_true rfl,w_wOnly _ (mkTE_F rfl rfl) (mkTE_F rfl rfl) (mkTE_F rfl rfl) (mkTE_F rfl rfl) (mkTE_F rfl rfl) (mkTE_F rfl rfl) (mkTE_F rfl rfl) (mkTE_F rfl rfl) (mkTE_F rfl rfl) (mkTE_F rfl rfl) x0 x1 hc⟩
end Go.Mini
namespace Go.Mini
def sumQ:Nat → (Nat → Rat) → Rat
  | 0,_ => 0
  | n + 1,f => sumQ n f + f n
theorem sumQ_congr {n:Nat} {f g:Nat → Rat} (h:∀ k,k < n → f k = g k):sumQ n f = sumQ n g:=by
  induction n with
  | zero => rfl
  | succ n ih => rw [sumQ,sumQ,ih fun k hk => h k (by omega),h n (by omega)]
theorem sumQ_add (n:Nat) (f g:Nat → Rat):sumQ n (fun k => f k + g k) = sumQ n f + sumQ n g:=by
  induction n with
  | zero => simp [sumQ,Rat.add_zero]
  | succ n ih => rw [sumQ,sumQ,sumQ,ih]; grind
theorem sumQ_mul (n:Nat) (c:Rat) (f:Nat → Rat):sumQ n (fun k => c * f k) = c * sumQ n f:=by
  induction n with
  | zero => simp [sumQ,Rat.mul_zero]
  | succ n ih => rw [sumQ,sumQ,ih]; grind
theorem sumQ_zero {n:Nat} {f:Nat → Rat} (h:∀ k,k < n → f k = 0):sumQ n f = 0:=by
  induction n with
  | zero => rfl
  | succ n ih => rw [sumQ,ih fun k hk => h k (by omega),h n (by omega)]; exact Rat.add_zero 0
/-- A sum with one element alone. -/
theorem sumQ_one {n:Nat} {f:Nat → Rat} {j:Nat} (hj:j < n) (h:∀ k,k < n → k ≠ j → f k = 0):sumQ n f = f j:=by
  induction n with
  | zero => omega
  | succ n ih =>
    rw [sumQ]
    by_cases hn:j = n
    · subst hn
      rw [sumQ_zero fun k hk => h k (by omega) (by omega)]; grind
    · rw [ih (by omega) fun k hk => h k (by omega),h n (by omega) (by omega)]; grind
theorem sumQ_comm (n m:Nat) (f:Nat → Nat → Rat):sumQ n (fun i => sumQ m (fun j => f i j)) = sumQ m (fun j => sumQ n (fun i => f i j)):=by
  induction n with
  | zero => rw [sumQ,sumQ_zero]; intro k hk; rfl
  | succ n ih =>
    rw [sumQ,ih,← sumQ_add]
    rfl
/-- Fewer conditions than unknowns: not all of them are 0. -/
theorem under:∀ (m r:Nat),m < r → ∀ (F:Nat → Nat → Rat),∃ y:Nat → Rat,(∃ j,j < r ∧ y j ≠ 0) ∧ ∀ i,i < m → sumQ r (fun j => y j * F i j) = 0:=by
  intro m
  induction m with
  | zero =>
    intro r hr F
    exact ⟨fun _ => 1,⟨0,hr,by decide⟩,fun i hi => by omega⟩
  | succ m ih =>
    intro r hr F
    obtain ⟨r,rfl⟩:∃ r',r = r' + 1:=⟨r - 1,by omega⟩
    by_cases hz:∀ i,i < m + 1 → F i r = 0
    · refine ⟨fun j => if j = r then 1 else 0,⟨r,by omega,by simp⟩,fun i hi => ?_⟩
      rw [sumQ_one (j:=r) (by omega) fun k _ hk => by simp [hk,Rat.zero_mul]]
      simp [hz i hi]
    · have ⟨i0,hi0,hne⟩:∃ i0,i0 < m + 1 ∧ F i0 r ≠ 0:=by
        apply Classical.byContradiction
        intro h
        exact hz fun i hi => Classical.byContradiction fun hne => h ⟨i,hi,hne⟩
      obtain ⟨y,⟨j,hj,hyj⟩,hy⟩:=ih r (by omega) (fun i j => F (if i = i0 then m else i) j - F (if i = i0 then m else i) r / F i0 r * F i0 j)
      refine ⟨fun j => if j = r then -(sumQ r (fun j => y j * F i0 j)) / F i0 r else y j,⟨j,by omega,by simp [show j ≠ r by omega]; exact hyj⟩,fun i hi => ?_⟩
      have e1:∀ G:Nat → Rat,sumQ r (fun j => (if j = r then -(sumQ r (fun j => y j * F i0 j)) / F i0 r else y j) * G j) = sumQ r (fun j => y j * G j):=fun G => sumQ_congr fun k hk => by simp [show k ≠ r by omega]
      rw [sumQ,e1]
      simp only [if_true]
      by_cases hi':i = i0
      · subst hi'
        generalize sumQ r (fun j => y j * F i j) = s
        grind
      · have key:∀ i',i' ≠ i0 → (∃ q,q < m ∧ (if q = i0 then m else q) = i') → sumQ r (fun j => y j * F i' j) + -(sumQ r (fun j => y j * F i0 j)) / F i0 r * F i' r = 0:=by
          rintro i' hn ⟨q,hq,rfl⟩
          have h1:=hy q hq
          generalize (if q = i0 then m else q) = i' at *
          have e2:sumQ r (fun j => y j * (F i' j - F i' r / F i0 r * F i0 j)) = sumQ r (fun j => y j * F i' j) - F i' r / F i0 r * sumQ r (fun j => y j * F i0 j):=by
            have e3:(fun j => y j * (F i' j - F i' r / F i0 r * F i0 j)) = fun j => y j * F i' j + (-(F i' r / F i0 r)) * (y j * F i0 j):=by funext j; grind
            rw [e3,sumQ_add,sumQ_mul]; grind
          rw [e2] at h1
          generalize sumQ r (fun j => y j * F i' j) = s at *
          generalize sumQ r (fun j => y j * F i0 j) = t at *
          grind
        refine key i hi' ?_
        by_cases him:i = m
        · exact ⟨i0,by omega,by simp [him]⟩
        · exact ⟨i,by omega,by simp [hi']⟩
/-! ### Systems -/
abbrev Mat:=Nat → Nat → Rat
def dotQ (N:Nat) (a y:Nat → Rat):Rat:=sumQ (N + 1) fun k => a k * y k
/-- y is orthogonal to all rows. -/
def Ann (N:Nat) (A:Mat) (y:Nat → Rat):Prop:=∀ i,i < N → dotQ N (A i) y = 0
def swapQ (A:Mat) (r s:Nat):Mat:=fun i => if i = s then A r else if i = r then A s else A i
def pivQ (A:Mat) (r c s:Nat):Mat:=fun i k => if i = r then swapQ A r s r k / swapQ A r s r c else swapQ A r s i k - swapQ A r s i c * (swapQ A r s r k / swapQ A r s r c)
theorem swapQ_r (A:Mat) (r s:Nat):swapQ A r s r = A s:=by
  unfold swapQ
  by_cases h:r = s
  · simp [h]
  · simp [h]
theorem ann_swap {N r s:Nat} {A:Mat} {y:Nat → Rat} (hr:r < N) (hs:s < N):Ann N (swapQ A r s) y ↔ Ann N A y:=by
  unfold Ann swapQ
  constructor
  · intro h i hi
    by_cases h1:i = r
    · have:=h s hs; simp at this; rw [h1]; exact this
    · by_cases h2:i = s
      · have:=h r hr
        rw [h2]
        by_cases h3:r = s
        · omega
        · simp [h3] at this; exact this
      · have:=h i hi; simp [h1,h2] at this; exact this
  · intro h i hi
    by_cases h2:i = s
    · simp [h2]; exact h r hr
    · by_cases h1:i = r
      · have:=h s hs
        rw [if_neg h2,if_pos h1]; exact this
      · simp [h1,h2]; exact h i hi
theorem dot_lin (N:Nat) (a b y:Nat → Rat) (x:Rat):dotQ N (fun k => a k - x * b k) y = dotQ N a y - x * dotQ N b y:=by
  unfold dotQ
  have:(fun k => (a k - x * b k) * y k) = fun k => a k * y k + (-x) * (b k * y k):=by funext k; grind
  rw [this,sumQ_add,sumQ_mul]; grind
theorem dot_div (N:Nat) (a y:Nat → Rat) (x:Rat):dotQ N (fun k => a k / x) y = dotQ N a y / x:=by
  unfold dotQ
  have:(fun k => (a k / x) * y k) = fun k => (1 / x) * (a k * y k):=by funext k; grind
  rw [this,sumQ_mul]; grind
theorem dot_smul (N:Nat) (a y:Nat → Rat) (x:Rat):dotQ N (fun k => a k * x) y = dotQ N a y * x:=by
  unfold dotQ
  have:(fun k => (a k * x) * y k) = fun k => x * (a k * y k):=by funext k; grind
  rw [this,sumQ_mul]; grind
theorem dot_add (N:Nat) (a b y:Nat → Rat):dotQ N (fun k => a k + b k) y = dotQ N a y + dotQ N b y:=by
  unfold dotQ
  have:(fun k => (a k + b k) * y k) = fun k => a k * y k + b k * y k:=by funext k; grind
  rw [this,sumQ_add]
theorem ann_piv {N r s c:Nat} {A:Mat} {y:Nat → Rat} (hr:r < N) (hs:s < N) (hne:A s c ≠ 0):Ann N (pivQ A r c s) y ↔ Ann N A y:=by
  rw [← ann_swap (A:=A) hr hs]
  have hne':swapQ A r s r c ≠ 0:=by rw [swapQ_r]; exact hne
  generalize hS:swapQ A r s = S at *
  have d1:∀ i,i ≠ r → dotQ N (pivQ A r c s i) y = dotQ N (S i) y - S i c * (dotQ N (S r) y / S r c):=by
    intro i hi
    have:pivQ A r c s i = fun k => S i k - S i c * (S r k / S r c):=by funext k; unfold pivQ; rw [hS,if_neg hi]
    rw [this,dot_lin N (S i) (fun k => S r k / S r c) y (S i c),dot_div]
  have d2:dotQ N (pivQ A r c s r) y = dotQ N (S r) y / S r c:=by
    have:pivQ A r c s r = fun k => S r k / S r c:=by funext k; unfold pivQ; rw [hS,if_pos rfl]
    rw [this,dot_div]
  unfold Ann
  constructor
  · intro h
    have h0:dotQ N (S r) y = 0:=by
      have:=h r hr
      rw [d2] at this
      generalize dotQ N (S r) y = d at *
      grind
    intro i hi
    by_cases hir:i = r
    · rw [hir]; exact h0
    · have:=h i hi
      rw [d1 i hir,h0] at this
      generalize dotQ N (S i) y = d at *
      grind
  · intro h i hi
    have h0:=h r hr
    by_cases hir:i = r
    · rw [hir,d2,h0]; grind
    · rw [d1 i hir,h0,h i hi]; grind
/-- In the course of an elimination: p pivots, in the columns pv; nothing ahead of column c in the rows behind them. -/
structure Red (N:Nat) (Q:Mat) (p c:Nat) (pv:Nat → Nat):Prop where
  pc:p ≤ c
  lt:∀ j,j < p → pv j < c
  unit:∀ j,j < p → ∀ i,i < N → Q i (pv j) = if i = j then 1 else 0
  zero:∀ i,p ≤ i → i < N → ∀ k,k < c → Q i k = 0
theorem Red.free {N p c:Nat} {Q:Mat} {pv:Nat → Nat} (h:Red N Q p c pv) (hz:∀ i,p ≤ i → i < N → Q i c = 0):Red N Q p (c + 1) pv :=
  ⟨by have:=h.pc; omega,fun j hj => by have:=h.lt j hj; omega,h.unit,fun i hi hN k hk => by
    by_cases hkc:k = c
    · rw [hkc]; exact hz i hi hN
    · exact h.zero i hi hN k (by omega)⟩
theorem Red.piv {N p c s:Nat} {Q:Mat} {pv:Nat → Nat} (h:Red N Q p c pv) (hp:p < N) (hs:p ≤ s) (hsN:s < N) (hne:Q s c ≠ 0):Red N (pivQ Q p c s) (p + 1) (c + 1) (fun j => if j = p then c else pv j):=by
  have hS:∀ i,i < N → ∃ i',i' < N ∧ swapQ Q p s i = Q i' ∧ (i < p → i' = i) ∧ (p ≤ i → p ≤ i'):=by
    intro i hi
    unfold swapQ
    by_cases h1:i = s
    · exact ⟨p,hp,by rw [if_pos h1],by omega,by omega⟩
    · by_cases h2:i = p
      · exact ⟨s,hsN,by rw [if_neg h1,if_pos h2],by omega,by omega⟩
      · exact ⟨i,hi,by rw [if_neg h1,if_neg h2],by omega,by omega⟩
  have hSr:swapQ Q p s p c ≠ 0:=by rw [swapQ_r]; exact hne
  have hz:∀ i,p ≤ i → i < N → ∀ k,k < c → swapQ Q p s i k = 0:=by
    intro i hi hN k hk
    obtain ⟨i',h1,h2,-,h4⟩:=hS i hN
    rw [h2]
    exact h.zero i' (h4 hi) h1 k hk
  refine ⟨by have:=h.pc; omega,fun j hj => ?_,fun j hj i hi => ?_,fun i hi hN k hk => ?_⟩
  · show (if j = p then c else pv j) < c + 1
    split
    · omega
    · have:=h.lt j (by omega); omega
  · unfold pivQ
    by_cases hjp:j = p
    · simp only [hjp,if_true]
      by_cases hip:i = p
      · rw [if_pos hip,if_pos hip]; grind
      · rw [if_neg hip,if_neg hip]; grind
    · simp only [hjp,if_false]
      have hj':j < p:=by omega
      have e1:swapQ Q p s p (pv j) = 0:=hz p (Nat.le_refl _) hp _ (h.lt j hj')
      rw [e1]
      by_cases hip:i = p
      · rw [if_pos hip,if_neg (by omega)]; grind
      · rw [if_neg hip]
        obtain ⟨i',h1,h2,h3,h4⟩:=hS i hi
        rw [h2,h.unit j hj' i' h1]
        rcases Nat.lt_or_ge i p with hlt | hge
        · rw [h3 hlt]; grind
        · rw [if_neg (by have:=h4 hge; omega),if_neg (by omega)]; grind
  · unfold pivQ
    rw [if_neg (by omega)]
    by_cases hkc:k = c
    · subst hkc; grind
    · rw [hz i (by omega) hN k (by omega),hz p (Nat.le_refl _) hp k (by omega)]; grind
theorem red_start (N:Nat) (Q:Mat) (pv:Nat → Nat):Red N Q 0 0 pv:=⟨Nat.le_refl _,fun j hj => by omega,fun j hj => by omega,fun i hi hN k hk => by omega⟩
end Go.Mini
namespace Go.Mini
/-- A vector of N elements, and one more. -/
def ext (N:Nat) (y:Nat → Rat) (z:Rat):Nat → Rat:=fun k => if k < N then y k else z
theorem dot_ext (N:Nat) (a y:Nat → Rat) (z:Rat):dotQ N a (ext N y z) = sumQ N (fun k => a k * y k) + a N * z:=by
  unfold dotQ ext
  rw [sumQ]
  congr 1
  · exact sumQ_congr fun k hk => by rw [if_pos hk]
  · rw [if_neg (by omega)]
theorem red_dot {N:Nat} {Q:Mat} {pv:Nat → Nat} (h:Red N Q N N pv) (hpv:∀ j,j < N → pv j = j) {i:Nat} (hi:i < N) (y:Nat → Rat) (z:Rat):dotQ N (Q i) (ext N y z) = y i + Q i N * z:=by
  rw [dot_ext]
  congr 1
  have:∀ k,k < N → Q i k = if i = k then 1 else 0:=fun k hk => by
    have:=h.unit k hk i hi
    rwa [hpv k hk] at this
  rw [sumQ_one hi fun k hk hki => by rw [this k hk,if_neg (Ne.symm hki),Rat.zero_mul],this i hi,if_pos rfl,Rat.one_mul]
theorem red_solution {N:Nat} {Q:Mat} {pv:Nat → Nat} (h:Red N Q N N pv) (hpv:∀ j,j < N → pv j = j) (y:Nat → Rat):Ann N Q (ext N y (-1)) ↔ ∀ i,i < N → y i = Q i N:=by
  unfold Ann
  constructor
  · intro hA i hi
    have:=hA i hi
    rw [red_dot h hpv hi] at this
    grind
  · intro hA i hi
    rw [red_dot h hpv hi,hA i hi]
    grind
theorem red_trivial {N:Nat} {Q:Mat} {pv:Nat → Nat} (h:Red N Q N N pv) (hpv:∀ j,j < N → pv j = j) (y:Nat → Rat) (hA:Ann N Q (ext N y 0)):∀ i,i < N → y i = 0:=by
  intro i hi
  have:=hA i hi
  rw [red_dot h hpv hi] at this
  grind
def kerQ (Q:Mat) (c:Nat):Nat → Rat:=fun k => if k < c then 0 - Q k c else if k = c then 1 else 0
theorem red_kernel {N c:Nat} {Q:Mat} {pv:Nat → Nat} (h:Red N Q c c pv) (hpv:∀ j,j < c → pv j = j) (hc:c < N) (hz:∀ i,c ≤ i → i < N → Q i c = 0):Ann N Q (ext N (kerQ Q c) 0):=by
  intro i hi
  rw [dot_ext]
  have main:∀ n,c < n → n ≤ N → sumQ n (fun k => Q i k * kerQ Q c k) = sumQ (c + 1) (fun k => Q i k * kerQ Q c k):=by
    intro n
    induction n with
    | zero => intro h; omega
    | succ n ih =>
      intro h1 h2
      by_cases hcn:c = n
      · rw [hcn]
      · rw [sumQ,ih (by omega) (by omega)]
        unfold kerQ
        rw [if_neg (show ¬ n < c by omega),if_neg (show ¬ n = c by omega)]
        grind
  rw [main N hc (Nat.le_refl _),sumQ]
  have hk:kerQ Q c c = 1:=by unfold kerQ; rw [if_neg (by omega),if_pos rfl]
  rw [hk]
  have hu:∀ k,k < c → Q i k = if i = k then 1 else 0:=fun k hk => by
    have:=h.unit k hk i hi
    rwa [hpv k hk] at this
  rcases Nat.lt_or_ge i c with hlt | hge
  · rw [sumQ_one hlt fun k hk hki => by rw [hu k hk,if_neg (Ne.symm hki),Rat.zero_mul],hu i hlt,if_pos rfl]
    unfold kerQ
    rw [if_pos hlt]
    grind
  · rw [sumQ_zero fun k hk => by rw [hu k hk,if_neg (by omega),Rat.zero_mul],hz i hge hi]
    grind
/-- The rank is at most the number of conditions from which the rows' follow. -/
theorem rank_le {N p m:Nat} {Q:Mat} {pv:Nat → Nat} (h:Red N Q p N pv) (C:Mat) (hC:∀ y:Nat → Rat,(∀ i,i < m → sumQ N (fun k => C i k * y k) = 0) → Ann N Q (ext N y 0)):p ≤ m:=by
  rcases Nat.lt_or_ge m p with hlt | hge
  · exfalso
    obtain ⟨z,⟨j,hj,hzj⟩,hz⟩:=under m p hlt fun i j => C i (pv j)
    have comb:∀ a:Nat → Rat,sumQ N (fun k => a k * sumQ p fun j => z j * if k = pv j then 1 else 0) = sumQ p fun j => z j * a (pv j):=by
      intro a
      have e1:(fun k => a k * sumQ p fun j => z j * if k = pv j then 1 else 0) = fun k => sumQ p fun j => a k * (z j * if k = pv j then 1 else 0):=by
        funext k; rw [sumQ_mul]
      rw [e1,sumQ_comm]
      refine sumQ_congr fun j hj => ?_
      rw [sumQ_one (h.lt j hj) fun k _ hk => by rw [if_neg hk]; grind,if_pos rfl]
      grind
    have hA:=hC (fun k => sumQ p fun j => z j * if k = pv j then 1 else 0) fun i hi => by rw [comb]; exact hz i hi
    have:=hA j (by have:=h.pc; omega)
    rw [dot_ext,comb,sumQ_one hj fun k hk hkj => by rw [h.unit k hk j (by have:=h.pc; omega),if_neg (Ne.symm hkj)]; grind,h.unit j hj j (by have:=h.pc; omega),if_pos rfl] at this
    grind
  · exact hge
end Go.Mini
namespace Go.Mini
open Go
set_option maxRecDepth 10000
set_option maxHeartbeats 1000000
def EncV (N:Nat) (l:List FRaw) (q:Nat → Rat):Prop:=l = ((List.range (N + 1)).map q).map encR ∧ ∀ k,k ≤ N → limR (q k)
def EncM (N:Nat) (rows:List MR) (Q:Mat):Prop:=rows.length = N ∧ ∀ (i:Nat) x,rows[i]? = some x → EncV N x.2.2 (Q i)
theorem EncV.get {N:Nat} {l:List FRaw} {q:Nat → Rat} (h:EncV N l q) {k:Nat} (hk:k ≤ N):l[k]? = some (encR (q k)):=by
  rw [h.1,List.getElem?_map,List.getElem?_map,List.getElem?_range (by omega)]
  rfl
theorem EncV.len {N:Nat} {l:List FRaw} {q:Nat → Rat} (h:EncV N l q):l.length = N + 1:=by rw [h.1]; simp
theorem EncV.of_get {N:Nat} {l:List FRaw} {q:Nat → Rat} (hl:l.length = N + 1) (h:∀ k,k ≤ N → l[k]? = some (encR (q k)) ∧ limR (q k)):EncV N l q:=by
  refine ⟨?_,fun k hk => (h k hk).2⟩
  apply List.ext_getElem?
  intro k
  rcases Nat.lt_or_ge k (N + 1) with hk | hk
  · rw [(h k (by omega)).1,List.getElem?_map,List.getElem?_map,List.getElem?_range hk]; rfl
  · rw [List.getElem?_eq_none (by omega),List.getElem?_eq_none (by simp; omega)]
theorem EncV.congr {N:Nat} {l:List FRaw} {q q':Nat → Rat} (h:EncV N l q) (hq:∀ k,k ≤ N → q k = q' k):EncV N l q' :=
  EncV.of_get h.len fun k hk => by rw [← hq k hk]; exact ⟨h.get hk,h.2 k hk⟩
theorem EncV.cell {N:Nat} {x:MR} {q:Nat → Rat} (h:EncV N x.2.2 q) {k:Nat} (hk:k ≤ N):cellOf x k = encR (q k):=cell_get (h.get hk)
theorem zeroQ_enc (q:Rat):zeroQ (encR q) = decide (q = 0):=by
  unfold zeroQ encR encB
  rw [Bool.eq_iff_iff,beq_iff_eq,decide_eq_true_eq,Int.sign_eq_zero_iff_zero,Rat.num_eq_zero]
theorem encR_lim {x y:Rat} (h:encR x = encR y):x = y:=encR_inj h
def okStep (fac a b:Rat):Bool:=mulOK fac b && addOK a (-(fac * b))
theorem step_ok {fac a b:Rat} (hf:limR fac) (ha:limR a) (hb:limR b) (h:okStep fac a b = true) :
    mulF (encR fac) (encR b) = (encR (fac * b),0) ∧ subF (encR a) (encR (fac * b)) = (encR (a - fac * b),0) ∧ limR (a - fac * b):=by
  unfold okStep at h
  rw [Bool.and_eq_true] at h
  refine ⟨?_,?_,sub_lim h.2⟩
  · rw [mulF_enc hf hb,h.1]; rfl
  · rw [subF_enc ha (mul_lim h.1),h.2]; rfl
theorem step_bad {fac a b:Rat} (hf:limR fac) (ha:limR a) (hb:limR b) (h:okStep fac a b = false) :
    ((mulF (encR fac) (encR b)).2 != 0 || (subF (encR a) (mulF (encR fac) (encR b)).1).2 != 0) = true:=by
  unfold okStep at h
  rw [mulF_enc hf hb]
  rcases h1:mulOK fac b
  · rfl
  · rw [h1,Bool.true_and] at h
    show ((subF (encR a) (encR (fac * b))).2 != 0) = true
    rw [subF_enc ha (mul_lim h1),h]
    rfl
theorem elimGo_enc {fac:Rat} (hf:limR fac):∀ (ql pl:List Rat),ql.length = pl.length → (∀ x ∈ ql,limR x) → (∀ x ∈ pl,limR x) →
    ((∀ q ∈ ql.zip pl,okStep fac q.1 q.2 = true) → elimGo (encR fac) (ql.map encR) (pl.map encR) false = ((List.zipWith (fun a b => a - fac * b) ql pl).map encR,false) ∧ ∀ x ∈ List.zipWith (fun a b => a - fac * b) ql pl,limR x) ∧
    ((elimGo (encR fac) (ql.map encR) (pl.map encR) false).2 = false → ∀ q ∈ ql.zip pl,okStep fac q.1 q.2 = true):=by
  intro ql
  induction ql with
  | nil => intro pl hl _ _; cases pl with
    | nil => exact ⟨fun _ => ⟨rfl,by simp⟩,fun _ => by simp⟩
    | cons => cases hl
  | cons a ql ih =>
    intro pl hl h1 h2
    cases pl with
    | nil => cases hl
    | cons b pl =>
      have ha:=h1 a List.mem_cons_self
      have hb:=h2 b List.mem_cons_self
      obtain ⟨i1,i2⟩:=ih pl (by simpa using hl) (fun x hx => h1 x (List.mem_cons_of_mem _ hx)) (fun x hx => h2 x (List.mem_cons_of_mem _ hx))
      constructor
      · intro hall
        obtain ⟨e1,e2,e3⟩:=step_ok hf ha hb (hall (a,b) (by simp))
        obtain ⟨i3,i4⟩:=i1 fun q hq => hall q (by simp only [List.zip_cons_cons,List.mem_cons]; exact .inr hq)
        refine ⟨?_,fun x hx => ?_⟩
        · simp only [List.map_cons,elimGo,e1,e2,List.zipWith_cons_cons,bne_self_eq_false,Bool.or_false,i3]
        · rw [List.zipWith_cons_cons,List.mem_cons] at hx
          rcases hx with rfl | hx
          · exact e3
          · exact i4 x hx
      · intro hb2
        simp only [List.map_cons,elimGo] at hb2
        rcases hs:okStep fac a b
        · rw [step_bad hf ha hb hs,elimGo_bad] at hb2
          cases hb2
        · obtain ⟨e1,e2,e3⟩:=step_ok hf ha hb hs
          simp only [e1,e2,bne_self_eq_false,Bool.or_false] at hb2
          intro q hq
          rw [List.zip_cons_cons,List.mem_cons] at hq
          rcases hq with rfl | hq
          · exact hs
          · exact i2 hb2 q hq
theorem zip_map_range (n:Nat) (q p:Nat → Rat):((List.range n).map q).zip ((List.range n).map p) = (List.range n).map fun k => (q k,p k):=by
  rw [List.zip_map',]
theorem zipWith_range (n:Nat) (f:Rat → Rat → Rat) (q p:Nat → Rat):List.zipWith f ((List.range n).map q) ((List.range n).map p) = (List.range n).map fun k => f (q k) (p k):=by
  rw [List.zipWith_map,List.zipWith_self]
theorem elimGo_V {N:Nat} {fac:Rat} {l l2:List FRaw} {q p:Nat → Rat} (hf:limR fac) (h1:EncV N l q) (h2:EncV N l2 p) :
    ((∀ k,k ≤ N → okStep fac (q k) (p k) = true) → (elimGo (encR fac) l l2 false).2 = false) ∧ ((elimGo (encR fac) l l2 false).2 = false → EncV N (elimGo (encR fac) l l2 false).1 (fun k => q k - fac * p k)):=by
  obtain ⟨e1,e2⟩:=elimGo_enc hf ((List.range (N + 1)).map q) ((List.range (N + 1)).map p) (by simp) (by
    intro x hx
    obtain ⟨k,hk,rfl⟩:=List.mem_map.1 hx
    exact h1.2 k (by have:=List.mem_range.1 hk; omega)) (by
    intro x hx
    obtain ⟨k,hk,rfl⟩:=List.mem_map.1 hx
    exact h2.2 k (by have:=List.mem_range.1 hk; omega))
  rw [← h1.1,← h2.1] at e1 e2
  have hz:(∀ k,k ≤ N → okStep fac (q k) (p k) = true) ↔ ∀ x ∈ ((List.range (N + 1)).map q).zip ((List.range (N + 1)).map p),okStep fac x.1 x.2 = true:=by
    rw [zip_map_range]
    simp only [List.mem_map,List.mem_range]
    constructor
    · rintro h x ⟨k,hk,rfl⟩; exact h k (by omega)
    · intro h k hk; exact h (q k,p k) ⟨k,by omega,rfl⟩
  refine ⟨fun h => by rw [(e1 (hz.1 h)).1],fun h => ?_⟩
  obtain ⟨e3,e4⟩:=e1 (e2 h)
  rw [e3,zipWith_range] at *
  exact ⟨rfl,fun k hk => e4 _ (List.mem_map.2 ⟨k,List.mem_range.2 (by omega),rfl⟩)⟩
theorem elimRows_bad (prow:List FRaw) (r c:Nat):∀ (i:Nat) (l:List MR),(elimRows prow r c i l true).2 = true
  | _,[] => rfl
  | i,x :: xs => by
    unfold elimRows
    split
    · exact elimRows_bad prow r c (i + 1) xs
    · rw [elimGo_bad]; exact elimRows_bad prow r c (i + 1) xs
theorem elimRows_enc {N r c:Nat} {prow:List FRaw} {p:Nat → Rat} (hp:EncV N prow p) (hc:c ≤ N):∀ (i:Nat) (l:List MR) (D:Mat),(∀ (j:Nat) x,l[j]? = some x → EncV N x.2.2 (D (i + j))) →
    ((∀ j,j < l.length → i + j ≠ r → D (i + j) c ≠ 0 → ∀ k,k ≤ N → okStep (D (i + j) c) (D (i + j) k) (p k) = true) → (elimRows prow r c i l false).2 = false) ∧
    ((elimRows prow r c i l false).2 = false → ∀ (j:Nat) x,(elimRows prow r c i l false).1[j]? = some x → EncV N x.2.2 (fun k => if i + j = r then D (i + j) k else D (i + j) k - D (i + j) c * p k))
  | i,[],D,h => ⟨fun _ => rfl,fun _ j x hx => by simp [elimRows] at hx⟩
  | i,x :: xs,D,h => by
    have h0:=h 0 x rfl
    rw [Nat.add_zero] at h0
    obtain ⟨ih1,ih2⟩:=elimRows_enc hp hc (i + 1) xs D fun j y hy => by
      have:=h (j + 1) y hy
      rwa [show i + (j + 1) = i + 1 + j by omega] at this
    have hcell:=h0.cell hc
    have ihs:(∀ j,j < (x :: xs).length → i + j ≠ r → D (i + j) c ≠ 0 → ∀ k,k ≤ N → okStep (D (i + j) c) (D (i + j) k) (p k) = true) → ∀ j,j < xs.length → i + 1 + j ≠ r → D (i + 1 + j) c ≠ 0 → ∀ k,k ≤ N → okStep (D (i + 1 + j) c) (D (i + 1 + j) k) (p k) = true:=by
      intro hh j hj
      have:=hh (j + 1) (by simpa using hj)
      rwa [show i + (j + 1) = i + 1 + j by omega] at this
    unfold elimRows
    rw [hcell,zeroQ_enc]
    by_cases hz:(i == r || decide (D i c = 0)) = true
    · rw [if_pos hz]
      refine ⟨fun hh => ih1 (ihs hh),fun hb j y hy => ?_⟩
      cases j with
      | zero =>
        simp only [List.getElem?_cons_zero,Option.some.injEq] at hy
        subst hy
        rw [Nat.add_zero]
        refine h0.congr fun k hk => ?_
        simp only [Bool.or_eq_true,beq_iff_eq,decide_eq_true_eq] at hz
        split
        · rfl
        · rcases hz with hz | hz
          · contradiction
          · rw [hz]; grind
      | succ j =>
        have:=ih2 hb j y (by simpa using hy)
        rwa [show i + (j + 1) = i + 1 + j by omega]
    · rw [if_neg hz]
      simp only [Bool.or_eq_true,beq_iff_eq,decide_eq_true_eq,not_or] at hz
      obtain ⟨g1,g2⟩:=elimGo_V (h0.2 c hc) h0 hp
      constructor
      · intro hh
        have h3:=g1 (hh 0 (by simp) (by simpa using hz.1) (by simpa using hz.2))
        dsimp only
        rw [h3]
        exact ih1 (ihs hh)
      · intro hb j y hy
        dsimp only at hb hy
        rcases hgb:(elimGo (encR (D i c)) x.2.2 prow false).2
        · rw [hgb] at hb hy
          cases j with
          | zero =>
            simp only [List.getElem?_cons_zero,Option.some.injEq] at hy
            subst hy
            rw [Nat.add_zero]
            exact (g2 hgb).congr fun k hk => by rw [if_neg hz.1]
          | succ j =>
            have:=ih2 hb j y (by simpa using hy)
            rwa [show i + (j + 1) = i + 1 + j by omega]
        · rw [hgb,elimRows_bad] at hb
          cases hb
theorem divRow_enc {N:Nat} {l:List FRaw} {q:Nat → Rat} {b:Rat} (h:EncV N l q) (hb:limR b) (h0:b ≠ 0) :
    ((divRow (encR b) l).2 = false ↔ ∀ k,k ≤ N → divOK (q k) b = true) ∧ ((divRow (encR b) l).2 = false → EncV N (divRow (encR b) l).1 (fun k => q k / b)):=by
  have e1:(divRow (encR b) l).2 = false ↔ ∀ k,k ≤ N → divOK (q k) b = true:=by
    unfold divRow
    rw [h.1]
    simp only [List.any_eq_false,List.mem_map,List.mem_range]
    constructor
    · intro hh k hk
      have:=hh (encR (q k)) ⟨q k,⟨k,by omega,rfl⟩,rfl⟩
      rw [divF_enc (h.2 k hk) hb h0] at this
      rcases hd:divOK (q k) b
      · rw [hd] at this; exact absurd rfl this
      · rfl
    · rintro hh _ ⟨_,⟨k,hk,rfl⟩,rfl⟩
      rw [divF_enc (h.2 k (by omega)) hb h0,hh k (by omega)]
      simp [keepF]
  refine ⟨e1,fun hh => ?_⟩
  have hok:=e1.1 hh
  refine EncV.of_get (by unfold divRow; rw [List.length_map,h.len]) fun k hk => ⟨?_,div_lim (hok k hk)⟩
  unfold divRow
  rw [List.getElem?_map,h.get hk,Option.map_some,divF_enc (h.2 k hk) hb h0,hok k hk]
  rfl
theorem EncM.row {N:Nat} {rows:List MR} {Q:Mat} (h:EncM N rows Q) {i:Nat} (hi:i < N):∃ x,rows[i]? = some x ∧ rowAt rows i = x ∧ EncV N x.2.2 (Q i):=by
  obtain ⟨x,hx⟩:∃ x,rows[i]? = some x:=⟨_,List.getElem?_eq_getElem (by have:=h.1; omega)⟩
  exact ⟨x,hx,row_at hx,h.2 i x hx⟩
theorem EncM.swap {N:Nat} {rows:List MR} {Q:Mat} (h:EncM N rows Q) {r s:Nat} (hr:r < N) (hs:s < N):EncM N (swapped rows r s) (swapQ Q r s):=by
  obtain ⟨x,hx,ex,vx⟩:=h.row hr
  obtain ⟨y,hy,ey,vy⟩:=h.row hs
  unfold swapped
  rw [ex,ey]
  refine ⟨by rw [List.length_set,List.length_set]; exact h.1,fun i z hz => ?_⟩
  rw [List.getElem?_set,List.getElem?_set,List.length_set] at hz
  unfold swapQ
  by_cases h1:s = i
  · rw [if_pos h1,if_pos (by have:=h.1; omega)] at hz
    cases hz
    rw [if_pos h1.symm]
    exact vx
  · rw [if_neg h1] at hz
    rw [if_neg (Ne.symm h1)]
    by_cases h2:r = i
    · rw [if_pos h2,if_pos (by have:=h.1; omega)] at hz
      cases hz
      rw [if_pos h2.symm]
      exact vy
    · rw [if_neg h2] at hz
      rw [if_neg (Ne.symm h2)]
      exact h.2 i z hz
/-- All operations of a step succeed. -/
def okPiv (N:Nat) (S:Mat) (r c:Nat):Prop:=(∀ k,k ≤ N → divOK (S r k) (S r c) = true) ∧ ∀ i,i < N → i ≠ r → S i c ≠ 0 → ∀ k,k ≤ N → okStep (S i c) (S i k) (S r k / S r c) = true
theorem pivX_enc {N:Nat} {rows:List MR} {Q:Mat} (h:EncM N rows Q) {r c:Nat} (hr:r < N) (hc:c < N) :
    ((pivX rows r c).1 = true ∧ (pivX rows r c).2.1 = rows ∧ (pivX rows r c).2.2 = false ∧ ∀ i,r ≤ i → i < N → Q i c = 0) ∨
    ((pivX rows r c).1 = false ∧ ∃ s,r ≤ s ∧ s < N ∧ Q s c ≠ 0 ∧ ((pivX rows r c).2.2 = false → EncM N (pivX rows r c).2.1 (pivQ Q r c s)) ∧ (okPiv N (swapQ Q r s) r c → (pivX rows r c).2.2 = false)):=by
  have hl:=h.1
  have hfl:=findAt_le rows r c (by omega)
  have hfz:∀ i x,r ≤ i → i < findAt rows r c → rows[i]? = some x → zeroQ (cellOf x c) = true:=by
    intro i x hi1 hi2 hx
    unfold findAt at hi2
    have hlt:i - r < (rows.drop r).findIdx fun x => !zeroQ (cellOf x c):=by omega
    have:=List.not_of_lt_findIdx hlt
    have hg:(rows.drop r)[i - r]'(Nat.lt_of_lt_of_le hlt List.findIdx_le_length) = x:=by
      rw [List.getElem_drop]
      have:=(List.getElem?_eq_some_iff.1 hx)
      obtain ⟨h1,h2⟩:=this
      simp only [show r + (i - r) = i by omega]
      exact h2
    rw [hg] at this
    simpa using this
  unfold pivX
  by_cases hf:findAt rows r c = rows.length
  · left
    rw [if_pos hf]
    refine ⟨rfl,rfl,rfl,fun i hi1 hi2 => ?_⟩
    obtain ⟨x,hx,-,vx⟩:=h.row hi2
    have:=hfz i x hi1 (by omega) hx
    rw [vx.cell (by omega),zeroQ_enc] at this
    simpa using this
  · right
    rw [if_neg hf]
    refine ⟨rfl,findAt rows r c,hfl.1,by omega,?_,?_⟩
    · obtain ⟨x,hx,-,vx⟩:=h.row (i:=findAt rows r c) (by omega)
      have hlt:findAt rows r c - r < (rows.drop r).length:=by rw [List.length_drop]; omega
      have h2:(rows.drop r).findIdx (fun x => !zeroQ (cellOf x c)) < (rows.drop r).length:=by
        unfold findAt at hlt; omega
      have h3:=List.findIdx_getElem (w:=h2)
      have hg:(rows.drop r)[(rows.drop r).findIdx fun x => !zeroQ (cellOf x c)] = x:=by
        rw [List.getElem_drop]
        exact (List.getElem?_eq_some_iff.1 hx).2
      rw [hg,vx.cell (by omega),zeroQ_enc] at h3
      simpa using h3
    · have hs:findAt rows r c < N:=by omega
      have hsw:=h.swap hr hs
      have hne:swapQ Q r (findAt rows r c) r c ≠ 0:=by
        rw [swapQ_r]
        obtain ⟨x,hx,-,vx⟩:=h.row hs
        have h2:(rows.drop r).findIdx (fun x => !zeroQ (cellOf x c)) < (rows.drop r).length:=by
          rw [List.length_drop]; unfold findAt at hs; omega
        have h3:=List.findIdx_getElem (w:=h2)
        have hg:(rows.drop r)[(rows.drop r).findIdx fun x => !zeroQ (cellOf x c)] = x:=by
          rw [List.getElem_drop]
          exact (List.getElem?_eq_some_iff.1 hx).2
        rw [hg,vx.cell (by omega),zeroQ_enc] at h3
        simpa using h3
      have hpq:pivQ Q r c (findAt rows r c) = fun i k => if i = r then swapQ Q r (findAt rows r c) r k / swapQ Q r (findAt rows r c) r c else swapQ Q r (findAt rows r c) i k - swapQ Q r (findAt rows r c) i c * (swapQ Q r (findAt rows r c) r k / swapQ Q r (findAt rows r c) r c):=rfl
      rw [hpq]
      generalize swapped rows r (findAt rows r c) = sw at *
      generalize swapQ Q r (findAt rows r c) = S at *
      obtain ⟨x,hx,ex,vx⟩:=hsw.row hr
      rw [ex,vx.cell (by omega)]
      obtain ⟨d1,d2⟩:=divRow_enc vx (vx.2 c (by omega)) hne
      have hdv:divided sw r c = sw.set r (x.1,x.2.1,(divRow (encR (S r c)) x.2.2).1):=by
        unfold divided
        rw [ex,vx.cell (by omega)]
      rw [hdv]
      have hrows:EncV N (divRow (encR (S r c)) x.2.2).1 (fun k => S r k / S r c) → ∀ (j:Nat) y,(sw.set r (x.1,x.2.1,(divRow (encR (S r c)) x.2.2).1))[j]? = some y → EncV N y.2.2 ((fun i => if i = r then fun k => S r k / S r c else S i) (0 + j)):=by
        intro hd j y hy
        rw [Nat.zero_add]
        rw [List.getElem?_set] at hy
        by_cases hj:r = j
        · rw [if_pos hj,if_pos (by have:=hsw.1; omega)] at hy
          cases hy
          dsimp only
          rw [if_pos hj.symm]
          exact hd
        · rw [if_neg hj] at hy
          dsimp only
          rw [if_neg (Ne.symm hj)]
          exact hsw.2 j y hy
      dsimp only
      rcases hdb:(divRow (encR (S r c)) x.2.2).2
      · have hd:=d2 hdb
        obtain ⟨r1,r2⟩:=elimRows_enc (r:=r) (c:=c) hd (by omega) 0 (sw.set r (x.1,x.2.1,(divRow (encR (S r c)) x.2.2).1)) (fun i => if i = r then fun k => S r k / S r c else S i) (hrows hd)
        constructor
        · intro hb
          refine ⟨?_,fun i z hz => ?_⟩
          · have:=congrArg List.length (elimRows_shape (divRow (encR (S r c)) x.2.2).1 r c 0 (sw.set r (x.1,x.2.1,(divRow (encR (S r c)) x.2.2).1)) false)
            rw [List.length_map,List.length_map,List.length_set] at this
            rw [this]; exact hsw.1
          · have:=r2 hb i z hz
            rw [Nat.zero_add] at this
            refine this.congr fun k hk => ?_
            by_cases hir:i = r
            · simp only [if_pos hir]
            · simp only [if_neg hir]
        · intro hok
          refine r1 fun j hj hjr hne k hk => ?_
          rw [Nat.zero_add] at *
          simp only [if_neg hjr] at hne ⊢
          rw [List.length_set,hsw.1] at hj
          exact hok.2 j hj hjr hne k hk
      · constructor
        · intro hb
          rw [elimRows_bad] at hb
          cases hb
        · intro hok
          rw [d1.2 hok.1] at hdb
          cases hdb
end Go.Mini
namespace Go.Mini
open Go
set_option maxRecDepth 10000
set_option maxHeartbeats 1000000
structure Elim (N:Nat) (Q Q':Mat) (rows:List MR) (p c:Nat) (pv:Nat → Nat):Prop where
  enc:EncM N rows Q'
  red:Red N Q' p c pv
  ann:∀ y,Ann N Q' y ↔ Ann N Q y
theorem elimX_spec (stop:Bool) (N:Nat) (Q0:Mat):∀ k c rows free Q p pv,c + k = N → Elim N Q0 Q rows p c pv → p + free.length = c → (stop = true → free = [] ∧ ∀ j,j < p → pv j = j) →
    ∀ rows' free',elimX stop k c rows free false = (rows',free',false) →
    ∃ Q' p' c' pv',Elim N Q0 Q' rows' p' c' pv' ∧ (stop = false → c' = N ∧ p' + free'.length = N) ∧
      (stop = true → (free' = [] ∧ c' = N ∧ p' = N ∧ ∀ j,j < N → pv' j = j) ∨ (∃ f,free' = [f] ∧ f < N ∧ p' = f ∧ c' = f ∧ (∀ j,j < f → pv' j = j) ∧ ∀ i,f ≤ i → i < N → Q' i f = 0)):=by
  intro k
  induction k with
  | zero =>
    intro c rows free Q p pv hc he hp hs rows' free' hx
    simp only [elimX,Prod.mk.injEq,and_true] at hx
    obtain ⟨rfl,rfl⟩:=hx
    refine ⟨Q,p,c,pv,he,fun _ => ⟨by omega,by omega⟩,fun h => ?_⟩
    obtain ⟨h1,h2⟩:=hs h
    subst h1
    simp only [List.length_nil,Nat.add_zero] at hp
    exact .inl ⟨rfl,by omega,by omega,fun j hj => h2 j (by omega)⟩
  | succ k ih =>
    intro c rows free Q p pv hc he hp hs rows' free' hx
    have hcp:c - free.length = p:=by omega
    unfold elimX at hx
    rw [hcp] at hx
    rcases pivX_enc he.enc (r:=p) (c:=c) (by omega) (by omega) with ⟨h1,h2,h3,h4⟩ | ⟨h1,s,hs1,hs2,hs3,h4,h5⟩
    · rw [h1,h2,h3,if_pos rfl] at hx
      cases stop with
      | true =>
        rw [if_pos rfl] at hx
        simp only [Prod.mk.injEq,and_true] at hx
        obtain ⟨rfl,rfl⟩:=hx
        obtain ⟨g1,g2⟩:=hs rfl
        subst g1
        simp only [List.length_nil,Nat.add_zero] at hp
        subst hp
        exact ⟨Q,p,p,pv,he,by simp,fun _ => .inr ⟨p,rfl,by omega,rfl,rfl,g2,h4⟩⟩
      | false =>
        rw [if_neg (by simp)] at hx
        exact ih (c + 1) rows (free ++ [c]) Q p pv (by omega) ⟨he.enc,he.red.free h4,he.ann⟩ (by simp; omega) (by simp) rows' free' hx
    · rw [h1,if_neg (by simp)] at hx
      rcases hb:(pivX rows p c).2.2
      · rw [hb] at hx
        have hen:=h4 hb
        refine ih (c + 1) _ free (pivQ Q p c s) (p + 1) (fun j => if j = p then c else pv j) (by omega) ⟨hen,he.red.piv (by omega) hs1 hs2 hs3,fun y => (ann_piv (by omega) hs2 hs3).trans (he.ann y)⟩ (by omega) (fun h => ?_) rows' free' hx
        obtain ⟨g1,g2⟩:=hs h
        refine ⟨g1,fun j hj => ?_⟩
        subst g1
        simp only [List.length_nil,Nat.add_zero] at hp
        show (if j = p then c else pv j) = j
        split
        · omega
        · exact g2 j (by omega)
      · rw [hb,elimX_bad] at hx
        cases hx
/-- A system's rows as a matrix: the value stands last. -/
def matOf (rs:List RowD):Mat:=fun i k => if k < rs.length then valF ((rs.getD i ([],zeroF)).1.getD k zeroF) else valF (rs.getD i ([],zeroF)).2
theorem right_enc' {f:FRaw} (h:rightF f = true):f = encR (valF f) ∧ limR (valF f):=by
  obtain ⟨x,hx,rfl⟩:=(rightF_iff _).1 h
  rw [valF_enc]
  exact ⟨rfl,hx⟩
theorem rightS_rows {rs:List RowD} {n:Int} (h:rightS rs n = true):(rs.length:Int) = n ∧ rs.length ≤ 40 ∧ ∀ r ∈ rs,r.1.length = rs.length ∧ rightF r.2 = true ∧ ∀ f ∈ r.1,rightF f = true:=by
  unfold rightS at h
  simp only [Bool.and_eq_true,Bool.not_eq_true',decide_eq_false_iff_not,beq_iff_eq] at h
  obtain ⟨h1,h2,h3,h4⟩:=h
  refine ⟨h3,by omega,fun r hr => ?_⟩
  rw [List.any_eq_false] at h4
  have:=h4 r hr
  unfold badRow badF at this
  simp only [Bool.not_eq_true',Bool.not_eq_true,Bool.not_eq_false',Bool.and_eq_true,beq_iff_eq,List.any_eq_false,Bool.not_eq_false] at this
  obtain ⟨q1,q2,q3⟩:=this
  exact ⟨by omega,q2,fun f hf => by simpa using q3 f hf⟩
theorem row_get' {rs:List RowD} {i:Nat} {r:RowD} (h:rs[i]? = some r):rs.getD i ([],zeroF) = r:=by
  rw [List.getD_eq_getElem?_getD,h]; rfl
theorem aug_enc {rs:List RowD} {n:Int} (h:rightS rs n = true):EncM rs.length (augOf rs) (matOf rs):=by
  obtain ⟨hn,h40,hrows⟩:=rightS_rows h
  refine ⟨aug_len rs,fun i x hx => ?_⟩
  have hi:i < rs.length:=by
    have:=(List.getElem?_eq_some_iff.1 hx).1
    rwa [aug_len] at this
  obtain ⟨r,hr⟩:∃ r,rs[i]? = some r:=⟨_,List.getElem?_eq_getElem hi⟩
  rw [aug_get hr] at hx
  cases hx
  obtain ⟨e1,e2,e3⟩:=hrows r (List.mem_of_getElem? hr)
  refine EncV.of_get (by simp [e1]) fun k hk => ?_
  unfold matOf
  rw [row_get' hr]
  by_cases hk2:k < rs.length
  · rw [if_pos hk2]
    obtain ⟨f,hf⟩:∃ f,r.1[k]? = some f:=⟨_,List.getElem?_eq_getElem (by omega)⟩
    obtain ⟨q1,q2⟩:=right_enc' (e3 f (List.mem_of_getElem? hf))
    rw [List.getElem?_append_left (by omega),hf,List.getD_eq_getElem?_getD,hf]
    exact ⟨congrArg some q1,q2⟩
  · rw [if_neg hk2]
    obtain ⟨q1,q2⟩:=right_enc' e2
    rw [List.getElem?_append_right (by omega),e1,show k - rs.length = 0 by omega]
    exact ⟨congrArg some q1,q2⟩
theorem elimS_spec (stop:Bool) {rs:List RowD} {n:Int} (h:rightS rs n = true) {rows':List MR} {free':List Nat} (hx:elimS stop rs = (rows',free',false)) :
    ∃ Q' p' c' pv',Elim rs.length (matOf rs) Q' rows' p' c' pv' ∧ (stop = false → c' = rs.length ∧ p' + free'.length = rs.length) ∧
      (stop = true → (free' = [] ∧ c' = rs.length ∧ p' = rs.length ∧ ∀ j,j < rs.length → pv' j = j) ∨ (∃ f,free' = [f] ∧ f < rs.length ∧ p' = f ∧ c' = f ∧ (∀ j,j < f → pv' j = j) ∧ ∀ i,f ≤ i → i < rs.length → Q' i f = 0)) :=
  elimX_spec stop rs.length (matOf rs) rs.length 0 (augOf rs) [] (matOf rs) 0 (fun j => j) (by omega) ⟨aug_enc h,red_start _ _ _,fun _ => Iff.rfl⟩ rfl (fun _ => ⟨rfl,fun j hj => by omega⟩) rows' free' hx
/-! ### Bounds -/
/-- The elements of a row have a common denominator. -/
def CD (N:Nat) (q:Nat → Rat) (b:Nat):Prop:=∃ (v:Nat → Int) (d:Int),d ≠ 0 ∧ d.natAbs ≤ 2 ^ b ∧ ∀ k,k ≤ N → q k * (d:Rat) = (v k:Rat) ∧ (v k).natAbs ≤ 2 ^ b
theorem CD.mono {N a b:Nat} {q:Nat → Rat} (h:CD N q a) (hab:a ≤ b):CD N q b:=by
  obtain ⟨v,d,h1,h2,h3⟩:=h
  have hp:2 ^ a ≤ 2 ^ b:=Nat.pow_le_pow_right (by omega) hab
  exact ⟨v,d,h1,Nat.le_trans h2 hp,fun k hk => ⟨(h3 k hk).1,Nat.le_trans (h3 k hk).2 hp⟩⟩
theorem cross {q:Rat} {v d:Int} (hd:d ≠ 0) (h:q * (d:Rat) = (v:Rat)):q.num * d = v * q.den:=by
  have hd':(d:Rat) ≠ 0:=by rw [Ne,Rat.intCast_eq_zero_iff]; exact hd
  have e:q = Rat.divInt v d:=by rw [Rat.divInt_eq_div]; grind
  have e2:Rat.divInt q.num q.den = Rat.divInt v d:=by rw [Rat.num_divInt_den]; exact e
  exact (Rat.divInt_eq_divInt_iff (den_ne q) hd).1 e2
theorem frac_bound {q:Rat} {v d:Int} (hd:d ≠ 0) (h:q * (d:Rat) = (v:Rat)):q.num.natAbs ≤ v.natAbs ∧ q.den ≤ d.natAbs:=by
  have hc:=cross hd h
  have hc':q.num.natAbs * d.natAbs = v.natAbs * q.den:=by
    have:=congrArg Int.natAbs hc
    rwa [Int.natAbs_mul,Int.natAbs_mul,Int.natAbs_natCast] at this
  have hdd:q.den ∣ d.natAbs:=(Nat.Coprime.symm q.reduced).dvd_of_dvd_mul_left ⟨v.natAbs,by rw [hc',Nat.mul_comm]⟩
  have hdp:0 < d.natAbs:=by omega
  have h2:=Nat.le_of_dvd hdp hdd
  refine ⟨?_,h2⟩
  obtain ⟨m,hm⟩:=hdd
  rw [hm] at hc'
  have hqp:=q.den_pos
  have h3:q.num.natAbs * m = v.natAbs:=by
    have:q.den * (q.num.natAbs * m) = q.den * v.natAbs:=by rw [Nat.mul_comm q.den v.natAbs,← hc']; rw [Nat.mul_left_comm]
    exact Nat.eq_of_mul_eq_mul_left hqp this
  have hm0:0 < m:=by
    rcases Nat.eq_zero_or_pos m with h0 | h0
    · rw [h0,Nat.mul_zero] at hm; omega
    · exact h0
  rw [← h3]
  exact Nat.le_mul_of_pos_right _ hm0
/-- A number's size. -/
def szR (b:Nat) (q:Rat):Prop:=q.num.natAbs ≤ 2 ^ b ∧ q.den ≤ 2 ^ b
theorem CD.sz {N b:Nat} {q:Nat → Rat} (h:CD N q b) {k:Nat} (hk:k ≤ N):szR b (q k):=by
  obtain ⟨v,d,h1,h2,h3⟩:=h
  obtain ⟨e1,e2⟩:=h3 k hk
  obtain ⟨f1,f2⟩:=frac_bound h1 e1
  exact ⟨Nat.le_trans f1 e2,Nat.le_trans f2 h2⟩
theorem pow_pow' (a b c:Nat) (h:a = 2 ^ b):a ^ c = 2 ^ (b * c):=by rw [h,← Nat.pow_mul]
theorem LIM_pow:∃ B:Nat,B = 1200 ∧ LIM = 2 ^ B:=⟨20 * 60,rfl,pow_pow' 1048576 20 60 (by decide)⟩
theorem okZ_sz {z:Int} {b:Nat} (h:z.natAbs ≤ 2 ^ b) (hb:b < 1200):okZ z = true:=by
  obtain ⟨B,hB,hL⟩:=LIM_pow
  unfold okZ
  rw [hL,decide_eq_true_eq]
  exact Nat.lt_of_le_of_lt h (Nat.pow_lt_pow_right (by omega) (by omega))
theorem mul_sz {x y:Int} {a b:Nat} (hx:x.natAbs ≤ 2 ^ a) (hy:y.natAbs ≤ 2 ^ b):(x * y).natAbs ≤ 2 ^ (a + b):=by
  rw [Int.natAbs_mul,Nat.pow_add]
  exact Nat.mul_le_mul hx hy
theorem add_sz {x y:Int} {a:Nat} (hx:x.natAbs ≤ 2 ^ a) (hy:y.natAbs ≤ 2 ^ a):(x + y).natAbs ≤ 2 ^ (a + 1):=by
  have:=Int.natAbs_add_le x y
  rw [Nat.pow_succ]; omega
theorem szR.mono {a b:Nat} {q:Rat} (h:szR a q) (hab:a ≤ b):szR b q:=by
  have hp:2 ^ a ≤ 2 ^ b:=Nat.pow_le_pow_right (by omega) hab
  exact ⟨Nat.le_trans h.1 hp,Nat.le_trans h.2 hp⟩
theorem sz_mulOK {x y:Rat} {a b:Nat} (hx:szR a x) (hy:szR b y) (h:a + b < 1200):mulOK x y = true:=by
  unfold mulOK
  rw [Bool.and_eq_true]
  exact ⟨okZ_sz (mul_sz hx.1 hy.1) h,okZ_sz (mul_sz (x:=(x.den:Int)) (y:=(y.den:Int)) (by simpa using hx.2) (by simpa using hy.2)) h⟩
theorem sz_divOK {x y:Rat} {a b:Nat} (hx:szR a x) (hy:szR b y) (h:a + b < 1200):divOK x y = true:=by
  unfold divOK
  rw [Bool.and_eq_true]
  exact ⟨okZ_sz (mul_sz (y:=(y.den:Int)) hx.1 (by simpa using hy.2)) h,okZ_sz (mul_sz (x:=(x.den:Int)) (by simpa using hx.2) hy.1) h⟩
theorem sz_addOK {x y:Rat} {a b:Nat} (hx:szR a x) (hy:szR b y) (h:a + b + 1 < 1200):addOK x y = true:=by
  unfold addOK
  have h1:=mul_sz (y:=(y.den:Int)) hx.1 (by simpa using hy.2)
  have h2:=mul_sz (y:=(x.den:Int)) hy.1 (by simpa using hx.2)
  rw [Nat.add_comm b a] at h2
  simp only [Bool.and_eq_true]
  exact ⟨okZ_sz h1 (by omega),okZ_sz h2 (by omega),okZ_sz (add_sz h1 h2) h,okZ_sz (mul_sz (x:=(x.den:Int)) (y:=(y.den:Int)) (by simpa using hx.2) (by simpa using hy.2)) (by omega)⟩
theorem szR_neg {b:Nat} {q:Rat} (h:szR b q):szR b (-q):=⟨by rw [Rat.neg_num,Int.natAbs_neg]; exact h.1,h.2⟩
theorem szR_div {p q:Int} {b:Nat} (h1:p.natAbs ≤ 2 ^ b) (h2:q.natAbs ≤ 2 ^ b) (hq:q ≠ 0):szR b (Rat.divInt p q):=by
  have hq':(q:Rat) ≠ 0:=by rw [Ne,Rat.intCast_eq_zero_iff]; exact hq
  have:=frac_bound (q:=Rat.divInt p q) (v:=p) hq (by rw [Rat.divInt_eq_div]; grind)
  exact ⟨Nat.le_trans this.1 h1,Nat.le_trans this.2 h2⟩
theorem sz_mul {x y:Rat} {a b:Nat} (hx:szR a x) (hy:szR b y):szR (a + b) (x * y):=by
  rw [← mul_divInt]
  exact szR_div (mul_sz hx.1 hy.1) (mul_sz (x:=(x.den:Int)) (y:=(y.den:Int)) (by simpa using hx.2) (by simpa using hy.2)) (Int.mul_ne_zero (den_ne x) (den_ne y))
theorem sz_add {x y:Rat} {a b:Nat} (hx:szR a x) (hy:szR b y):szR (a + b + 1) (x + y):=by
  rw [← add_divInt]
  have h1:=mul_sz (y:=(y.den:Int)) hx.1 (by simpa using hy.2)
  have h2:=mul_sz (y:=(x.den:Int)) hy.1 (by simpa using hx.2)
  rw [Nat.add_comm b a] at h2
  have h3:=mul_sz (x:=(x.den:Int)) (y:=(y.den:Int)) (a:=a) (b:=b) (by simpa using hx.2) (by simpa using hy.2)
  exact szR_div (add_sz h1 h2) (Nat.le_trans h3 (Nat.pow_le_pow_right (by omega) (by omega))) (Int.mul_ne_zero (den_ne x) (den_ne y))
theorem sz_div {x y:Rat} {a b:Nat} (hx:szR a x) (hy:szR b y) (h0:y ≠ 0):szR (a + b) (x / y):=by
  rw [← div_divInt]
  have hn:y.num ≠ 0:=fun h => h0 (Rat.num_eq_zero.1 h)
  exact szR_div (mul_sz (y:=(y.den:Int)) hx.1 (by simpa using hy.2)) (mul_sz (x:=(x.den:Int)) (by simpa using hx.2) hy.1) (Int.mul_ne_zero (den_ne x) hn)
end Go.Mini
