/- The laws of the breaches, walked. -/
import Derived.Test.YtehjaghpfnncoaaMiniBr5
set_option linter.unusedSimpArgs false
set_option linter.unusedVariables false
namespace Go.Mini
open Go
set_option maxRecDepth 10000
set_option maxHeartbeats 2000000

theorem sm_w : F_worst [.sl [[.int .i64 1, .int .i64 10], [.int .i64 2, .int .i64 13], [.int .i64 0, .int .i64 0]]] = some (.same (.agg (brL (2, 13)))) := F_worst_eq [(1, 10), (2, 13), (0, 0)] (by decide)

noncomputable def F_small : List Data → Option PRes := FF (α := Unit) (fun (_ : Unit) => ([] : List Data)) (fun (_ : Unit) => some (.same (.bool true)))
theorem F_small_inj : ∀ a b : Unit, (fun (_ : Unit) => ([] : List Data)) a = (fun (_ : Unit) => ([] : List Data)) b → a = b := by
    intro _ _ _; rfl
@[go_sem] theorem F_small_eq  : F_small [] = some (.same (.bool true)) := FF_eq F_small_inj ()
theorem w_small (T : Tab) (h_next : T id_breach_Next = mkE F_next) (h_notice : T id_breach_Notice = mkE F_notice) (h_waive : T id_breach_Waive = mkE F_waive) (h_worst : T id_breach_Worst = mkE F_worst) (h_right : T id_breach_Right = mkE F_right)  :
    wp T mf_law27_small.body (endS mf_law27_small.res (.same (.bool true))) ⟨initTm [], emp⟩ := by
  refine wp_start ?_
  simp only [mf_law27_small]
  simp only [go_sem, reduceIte, Nat.reduceEqDiff, Nat.reduceAdd, Nat.reduceSub, Nat.reduceMul, Nat.reduceLeDiff, Bool.false_eq_true, reduceCtorEq, Nat.reduceLT, Nat.reduceBEq, Int.reduceEq, h_next, h_notice, h_waive, h_worst, h_right, show nextF 0 0 0 3 10 = ((1, 10), 0) from by decide, show nextF 1 10 2 3 12 = ((1, 10), 0) from by decide, show nextF 1 10 0 3 13 = ((2, 13), 0) from by decide, show nextF 1 10 1 3 12 = ((0, 0), 0) from by decide, show noticeF 2 13 14 = ((3, 14), 0) from by decide, show waiveF 2 13 14 = ((0, 0), 0) from by decide, sm_w, show rightB 2 13 = true from by decide, show rightB 0 1 = false from by decide, brD, brL, beq_self_eq_true]
  repeat' first
    | (refine wpG_not (fun h => ?_) (fun h => ?_) <;> simp only [h, go_sem, reduceIte, Nat.reduceEqDiff, Nat.reduceAdd, Nat.reduceSub, Nat.reduceMul, Nat.reduceLeDiff, Bool.false_eq_true, reduceCtorEq, Nat.reduceLT, Nat.reduceBEq, Int.reduceEq, h_next, h_notice, h_waive, h_worst, h_right, show nextF 0 0 0 3 10 = ((1, 10), 0) from by decide, show nextF 1 10 2 3 12 = ((1, 10), 0) from by decide, show nextF 1 10 0 3 13 = ((2, 13), 0) from by decide, show nextF 1 10 1 3 12 = ((0, 0), 0) from by decide, show noticeF 2 13 14 = ((3, 14), 0) from by decide, show waiveF 2 13 14 = ((0, 0), 0) from by decide, sm_w, show rightB 2 13 = true from by decide, show rightB 0 1 = false from by decide, brD, brL, beq_self_eq_true])
    | (refine wpG_yes (fun h => ?_) (fun h => ?_) <;> simp only [h, go_sem, reduceIte, Nat.reduceEqDiff, Nat.reduceAdd, Nat.reduceSub, Nat.reduceMul, Nat.reduceLeDiff, Bool.false_eq_true, reduceCtorEq, Nat.reduceLT, Nat.reduceBEq, Int.reduceEq, h_next, h_notice, h_waive, h_worst, h_right, show nextF 0 0 0 3 10 = ((1, 10), 0) from by decide, show nextF 1 10 2 3 12 = ((1, 10), 0) from by decide, show nextF 1 10 0 3 13 = ((2, 13), 0) from by decide, show nextF 1 10 1 3 12 = ((0, 0), 0) from by decide, show noticeF 2 13 14 = ((3, 14), 0) from by decide, show waiveF 2 13 14 = ((0, 0), 0) from by decide, sm_w, show rightB 2 13 = true from by decide, show rightB 0 1 = false from by decide, brD, brL, beq_self_eq_true])
    | (refine wpB_not (fun h => ?_) (fun h => ?_) <;> simp only [h, go_sem, reduceIte, Nat.reduceEqDiff, Nat.reduceAdd, Nat.reduceSub, Nat.reduceMul, Nat.reduceLeDiff, Bool.false_eq_true, reduceCtorEq, Nat.reduceLT, Nat.reduceBEq, Int.reduceEq, h_next, h_notice, h_waive, h_worst, h_right, show nextF 0 0 0 3 10 = ((1, 10), 0) from by decide, show nextF 1 10 2 3 12 = ((1, 10), 0) from by decide, show nextF 1 10 0 3 13 = ((2, 13), 0) from by decide, show nextF 1 10 1 3 12 = ((0, 0), 0) from by decide, show noticeF 2 13 14 = ((3, 14), 0) from by decide, show waiveF 2 13 14 = ((0, 0), 0) from by decide, sm_w, show rightB 2 13 = true from by decide, show rightB 0 1 = false from by decide, brD, brL, beq_self_eq_true])
    | (refine wpB_yes (fun h => ?_) (fun h => ?_) <;> simp only [h, go_sem, reduceIte, Nat.reduceEqDiff, Nat.reduceAdd, Nat.reduceSub, Nat.reduceMul, Nat.reduceLeDiff, Bool.false_eq_true, reduceCtorEq, Nat.reduceLT, Nat.reduceBEq, Int.reduceEq, h_next, h_notice, h_waive, h_worst, h_right, show nextF 0 0 0 3 10 = ((1, 10), 0) from by decide, show nextF 1 10 2 3 12 = ((1, 10), 0) from by decide, show nextF 1 10 0 3 13 = ((2, 13), 0) from by decide, show nextF 1 10 1 3 12 = ((0, 0), 0) from by decide, show noticeF 2 13 14 = ((3, 14), 0) from by decide, show waiveF 2 13 14 = ((0, 0), 0) from by decide, sm_w, show rightB 2 13 = true from by decide, show rightB 0 1 = false from by decide, brD, brL, beq_self_eq_true])
    | (refine wpGD_not (fun h => ?_) (fun h => ?_) <;> simp only [h, go_sem, reduceIte, Nat.reduceEqDiff, Nat.reduceAdd, Nat.reduceSub, Nat.reduceMul, Nat.reduceLeDiff, Bool.false_eq_true, reduceCtorEq, Nat.reduceLT, Nat.reduceBEq, Int.reduceEq, h_next, h_notice, h_waive, h_worst, h_right, show nextF 0 0 0 3 10 = ((1, 10), 0) from by decide, show nextF 1 10 2 3 12 = ((1, 10), 0) from by decide, show nextF 1 10 0 3 13 = ((2, 13), 0) from by decide, show nextF 1 10 1 3 12 = ((0, 0), 0) from by decide, show noticeF 2 13 14 = ((3, 14), 0) from by decide, show waiveF 2 13 14 = ((0, 0), 0) from by decide, sm_w, show rightB 2 13 = true from by decide, show rightB 0 1 = false from by decide, brD, brL, beq_self_eq_true])
    | (refine wpGD_yes (fun h => ?_) (fun h => ?_) <;> simp only [h, go_sem, reduceIte, Nat.reduceEqDiff, Nat.reduceAdd, Nat.reduceSub, Nat.reduceMul, Nat.reduceLeDiff, Bool.false_eq_true, reduceCtorEq, Nat.reduceLT, Nat.reduceBEq, Int.reduceEq, h_next, h_notice, h_waive, h_worst, h_right, show nextF 0 0 0 3 10 = ((1, 10), 0) from by decide, show nextF 1 10 2 3 12 = ((1, 10), 0) from by decide, show nextF 1 10 0 3 13 = ((2, 13), 0) from by decide, show nextF 1 10 1 3 12 = ((0, 0), 0) from by decide, show noticeF 2 13 14 = ((3, 14), 0) from by decide, show waiveF 2 13 14 = ((0, 0), 0) from by decide, sm_w, show rightB 2 13 = true from by decide, show rightB 0 1 = false from by decide, brD, brL, beq_self_eq_true])
  all_goals cases h

theorem rem12 (n : Int) (h : 0 ≤ n ∧ n ≤ 255) : ∃ g : Nat, IntKind.i64.wrap (n.tmod 12) = (g : Int) ∧ g < 12 := by
  have h1 := Int.tmod_nonneg 12 h.1
  have h2 := Int.tmod_lt_of_pos n (b := 12) (by omega)
  exact ⟨(n.tmod 12).toNat, by rw [wrap64 _ (by omega) (by omega)]; omega, by omega⟩

end Go.Mini
