/- The laws of the breaches, walked. -/
import Derived.Test.YtehjaghpfnncoaaMiniBr6
set_option linter.unusedSimpArgs false
set_option linter.unusedVariables false
namespace Go.Mini
open Go
set_option maxRecDepth 10000
set_option maxHeartbeats 2000000

noncomputable def F_Ends : List Data → Option PRes := FF (α := Int × Int × Int × Int × Int) (fun (s, n, kept, grace, d) => ([.int .i64 s, .int .i64 n, .int .u8 kept, .int .u8 grace, .int .i64 d] : List Data)) (fun (s, n, kept, grace, d) => onlyIf ((0 ≤ kept ∧ kept ≤ 255) ∧ (0 ≤ grace ∧ grace ≤ 255)) (.same (.bool true)))
theorem F_Ends_inj : ∀ a b : Int × Int × Int × Int × Int, (fun (s, n, kept, grace, d) => ([.int .i64 s, .int .i64 n, .int .u8 kept, .int .u8 grace, .int .i64 d] : List Data)) a = (fun (s, n, kept, grace, d) => ([.int .i64 s, .int .i64 n, .int .u8 kept, .int .u8 grace, .int .i64 d] : List Data)) b → a = b := by
    rintro ⟨s1, n1, kept1, grace1, d1⟩ ⟨s2, n2, kept2, grace2, d2⟩ h
    simp only [List.cons.injEq, Data.int.injEq, Data.agg.injEq, Data.sl.injEq, Data.bool.injEq, Data.str.injEq, Data.ptr.injEq, Data.tup.injEq, Prod.mk.injEq, true_and, and_true] at h ⊢
    first | exact h | simpa [Prod.ext_iff, and_assoc] using h | grind
@[go_sem] theorem F_Ends_eq (s : Int) (n : Int) (kept : Int) (grace : Int) (d : Int) (hc : (0 ≤ kept ∧ kept ≤ 255) ∧ (0 ≤ grace ∧ grace ≤ 255)) : F_Ends [.int .i64 s, .int .i64 n, .int .u8 kept, .int .u8 grace, .int .i64 d] = some (.same (.bool true)) := (FF_eq F_Ends_inj (s, n, kept, grace, d)).trans (onlyIf_pos hc _)
theorem w_Ends (T : Tab) (h_small : T id_law27_small = mkE F_small) (h_right : T id_breach_Right = mkE F_right) (h_next : T id_breach_Next = mkE F_next) (h_notice : T id_breach_Notice = mkE F_notice) (h_waive : T id_breach_Waive = mkE F_waive) (s : Int) (n : Int) (kept : Int) (grace : Int) (d : Int) (hc : (0 ≤ kept ∧ kept ≤ 255) ∧ (0 ≤ grace ∧ grace ≤ 255)) :
    wp T mf_law27_BreachEnds.body (endS mf_law27_BreachEnds.res (.same (.bool true))) ⟨initTm [.dat (.int .i64 s), .dat (.int .i64 n), .dat (.int .u8 kept), .dat (.int .u8 grace), .dat (.int .i64 d)], emp⟩ := by
  refine wp_start ?_
  simp only [mf_law27_BreachEnds]
  obtain ⟨hke, hgr⟩ := hc
  by_cases hr : rightB s n = true
  · by_cases hd : d < n ∨ d > 200000
    · by_cases hd1 : d < n
      · simp only [go_sem, reduceIte, Nat.reduceEqDiff, Nat.reduceAdd, Nat.reduceSub, Nat.reduceMul, Nat.reduceLeDiff, Bool.false_eq_true, reduceCtorEq, Nat.reduceLT, Nat.reduceBEq, Int.reduceEq, h_small, h_right, h_next, h_notice, h_waive, hr, hd1, decide_true]
        repeat' first
          | (refine wpG_not (fun h => ?_) (fun h => ?_) <;> simp only [h, go_sem, reduceIte, Nat.reduceEqDiff, Nat.reduceAdd, Nat.reduceSub, Nat.reduceMul, Nat.reduceLeDiff, Bool.false_eq_true, reduceCtorEq, Nat.reduceLT, Nat.reduceBEq, Int.reduceEq, h_small, h_right, h_next, h_notice, h_waive, hr, hd1, decide_true])
          | (refine wpG_yes (fun h => ?_) (fun h => ?_) <;> simp only [h, go_sem, reduceIte, Nat.reduceEqDiff, Nat.reduceAdd, Nat.reduceSub, Nat.reduceMul, Nat.reduceLeDiff, Bool.false_eq_true, reduceCtorEq, Nat.reduceLT, Nat.reduceBEq, Int.reduceEq, h_small, h_right, h_next, h_notice, h_waive, hr, hd1, decide_true])
          | (refine wpB_not (fun h => ?_) (fun h => ?_) <;> simp only [h, go_sem, reduceIte, Nat.reduceEqDiff, Nat.reduceAdd, Nat.reduceSub, Nat.reduceMul, Nat.reduceLeDiff, Bool.false_eq_true, reduceCtorEq, Nat.reduceLT, Nat.reduceBEq, Int.reduceEq, h_small, h_right, h_next, h_notice, h_waive, hr, hd1, decide_true])
          | (refine wpB_yes (fun h => ?_) (fun h => ?_) <;> simp only [h, go_sem, reduceIte, Nat.reduceEqDiff, Nat.reduceAdd, Nat.reduceSub, Nat.reduceMul, Nat.reduceLeDiff, Bool.false_eq_true, reduceCtorEq, Nat.reduceLT, Nat.reduceBEq, Int.reduceEq, h_small, h_right, h_next, h_notice, h_waive, hr, hd1, decide_true])
          | (refine wpGD_not (fun h => ?_) (fun h => ?_) <;> simp only [h, go_sem, reduceIte, Nat.reduceEqDiff, Nat.reduceAdd, Nat.reduceSub, Nat.reduceMul, Nat.reduceLeDiff, Bool.false_eq_true, reduceCtorEq, Nat.reduceLT, Nat.reduceBEq, Int.reduceEq, h_small, h_right, h_next, h_notice, h_waive, hr, hd1, decide_true])
          | (refine wpGD_yes (fun h => ?_) (fun h => ?_) <;> simp only [h, go_sem, reduceIte, Nat.reduceEqDiff, Nat.reduceAdd, Nat.reduceSub, Nat.reduceMul, Nat.reduceLeDiff, Bool.false_eq_true, reduceCtorEq, Nat.reduceLT, Nat.reduceBEq, Int.reduceEq, h_small, h_right, h_next, h_notice, h_waive, hr, hd1, decide_true])
      · simp only [go_sem, reduceIte, Nat.reduceEqDiff, Nat.reduceAdd, Nat.reduceSub, Nat.reduceMul, Nat.reduceLeDiff, Bool.false_eq_true, reduceCtorEq, Nat.reduceLT, Nat.reduceBEq, Int.reduceEq, h_small, h_right, h_next, h_notice, h_waive, hr, hd1, show d > 200000 by omega, decide_true, decide_false]
        repeat' first
          | (refine wpG_not (fun h => ?_) (fun h => ?_) <;> simp only [h, go_sem, reduceIte, Nat.reduceEqDiff, Nat.reduceAdd, Nat.reduceSub, Nat.reduceMul, Nat.reduceLeDiff, Bool.false_eq_true, reduceCtorEq, Nat.reduceLT, Nat.reduceBEq, Int.reduceEq, h_small, h_right, h_next, h_notice, h_waive, hr, hd1, show d > 200000 by omega, decide_true, decide_false])
          | (refine wpG_yes (fun h => ?_) (fun h => ?_) <;> simp only [h, go_sem, reduceIte, Nat.reduceEqDiff, Nat.reduceAdd, Nat.reduceSub, Nat.reduceMul, Nat.reduceLeDiff, Bool.false_eq_true, reduceCtorEq, Nat.reduceLT, Nat.reduceBEq, Int.reduceEq, h_small, h_right, h_next, h_notice, h_waive, hr, hd1, show d > 200000 by omega, decide_true, decide_false])
          | (refine wpB_not (fun h => ?_) (fun h => ?_) <;> simp only [h, go_sem, reduceIte, Nat.reduceEqDiff, Nat.reduceAdd, Nat.reduceSub, Nat.reduceMul, Nat.reduceLeDiff, Bool.false_eq_true, reduceCtorEq, Nat.reduceLT, Nat.reduceBEq, Int.reduceEq, h_small, h_right, h_next, h_notice, h_waive, hr, hd1, show d > 200000 by omega, decide_true, decide_false])
          | (refine wpB_yes (fun h => ?_) (fun h => ?_) <;> simp only [h, go_sem, reduceIte, Nat.reduceEqDiff, Nat.reduceAdd, Nat.reduceSub, Nat.reduceMul, Nat.reduceLeDiff, Bool.false_eq_true, reduceCtorEq, Nat.reduceLT, Nat.reduceBEq, Int.reduceEq, h_small, h_right, h_next, h_notice, h_waive, hr, hd1, show d > 200000 by omega, decide_true, decide_false])
          | (refine wpGD_not (fun h => ?_) (fun h => ?_) <;> simp only [h, go_sem, reduceIte, Nat.reduceEqDiff, Nat.reduceAdd, Nat.reduceSub, Nat.reduceMul, Nat.reduceLeDiff, Bool.false_eq_true, reduceCtorEq, Nat.reduceLT, Nat.reduceBEq, Int.reduceEq, h_small, h_right, h_next, h_notice, h_waive, hr, hd1, show d > 200000 by omega, decide_true, decide_false])
          | (refine wpGD_yes (fun h => ?_) (fun h => ?_) <;> simp only [h, go_sem, reduceIte, Nat.reduceEqDiff, Nat.reduceAdd, Nat.reduceSub, Nat.reduceMul, Nat.reduceLeDiff, Bool.false_eq_true, reduceCtorEq, Nat.reduceLT, Nat.reduceBEq, Int.reduceEq, h_small, h_right, h_next, h_notice, h_waive, hr, hd1, show d > 200000 by omega, decide_true, decide_false])
    · have hr' := (right_iff _ _).1 hr
      have hk3 := tmod_cases kept hke.1
      have hwk : IntKind.i64.wrap (kept.tmod 3) = kept.tmod 3 := tmod3 kept hke
      have hwg : IntKind.i64.wrap grace = grace := wrap64 _ (by omega) (by omega)
      have hwg1 : IntKind.i64.wrap (grace + 1) = grace + 1 := wrap64 _ (by omega) (by omega)
      obtain ⟨g, rfl⟩ : ∃ g : Nat, grace = g := ⟨grace.toNat, by omega⟩
      have hn := next_of s n (kept.tmod 3) g d hr (by omega) (by omega) (by omega) (by omega)
      have hn0 : nextF 0 0 0 ((g : Int) + 1) d = ((1, d), 0) := by
        have := next_of 0 0 0 (g + 1) d (by decide) (by omega) (by omega) (by omega) (by omega)
        rw [if_neg (by omega), if_pos (by omega), if_neg (by omega)] at this
        exact this
      have hkn : knownF s n d = 0 := by
        unfold knownF
        rw [hr, (day_iff d).2 (by omega), if_neg (by simp), if_neg (by simp; omega)]
      have hno : noticeF s n d = if s = 2 then ((3, d), 0) else ((s, n), 7) := by unfold noticeF; rw [hkn]; simp
      have hwa : waiveF s n d = if s = 1 ∨ s = 2 then ((0, 0), 0) else ((s, n), 7) := by
        unfold waiveF; rw [hkn]
        by_cases h : s = 1 ∨ s = 2
        · rw [if_pos h]; simp; omega
        · rw [if_neg h]; simp; omega
      have hd1 : ¬ d < n := by omega
      have hd2 : ¬ d > 200000 := by omega
      have hs : s = 0 ∨ s = 1 ∨ s = 2 ∨ s = 3 := by omega
      rcases hs with rfl | rfl | rfl | rfl
      · obtain ⟨b', e⟩ : ∃ b', nextF 0 n (kept.tmod 3) g d = (b', 0) := by
          rw [hn]; split
          · exact ⟨_, rfl⟩
          · split
            · split <;> exact ⟨_, rfl⟩
            · split <;> exact ⟨_, rfl⟩
        rw [if_neg (by decide)] at hno hwa
        simp only [go_sem, reduceIte, Nat.reduceEqDiff, Nat.reduceAdd, Nat.reduceSub, Nat.reduceMul, Nat.reduceLeDiff, Bool.false_eq_true, reduceCtorEq, Nat.reduceLT, Nat.reduceBEq, Int.reduceEq, h_small, h_right, h_next, h_notice, h_waive, hr, hd1, hd2, hwk, hwg, hwg1, hn0, hno, hwa, e, brD, decide_false, decide_true, beq_self_eq_true, Int.reduceBEq, show ¬ ((0:Int) ≥ 2) by decide]
        repeat' first
          | (refine wpG_not (fun h => ?_) (fun h => ?_) <;> simp only [h, go_sem, reduceIte, Nat.reduceEqDiff, Nat.reduceAdd, Nat.reduceSub, Nat.reduceMul, Nat.reduceLeDiff, Bool.false_eq_true, reduceCtorEq, Nat.reduceLT, Nat.reduceBEq, Int.reduceEq, h_small, h_right, h_next, h_notice, h_waive, hr, hd1, hd2, hwk, hwg, hwg1, hn0, hno, hwa, e, brD, decide_false, decide_true, beq_self_eq_true, Int.reduceBEq, show ¬ ((0:Int) ≥ 2) by decide])
          | (refine wpG_yes (fun h => ?_) (fun h => ?_) <;> simp only [h, go_sem, reduceIte, Nat.reduceEqDiff, Nat.reduceAdd, Nat.reduceSub, Nat.reduceMul, Nat.reduceLeDiff, Bool.false_eq_true, reduceCtorEq, Nat.reduceLT, Nat.reduceBEq, Int.reduceEq, h_small, h_right, h_next, h_notice, h_waive, hr, hd1, hd2, hwk, hwg, hwg1, hn0, hno, hwa, e, brD, decide_false, decide_true, beq_self_eq_true, Int.reduceBEq, show ¬ ((0:Int) ≥ 2) by decide])
          | (refine wpB_not (fun h => ?_) (fun h => ?_) <;> simp only [h, go_sem, reduceIte, Nat.reduceEqDiff, Nat.reduceAdd, Nat.reduceSub, Nat.reduceMul, Nat.reduceLeDiff, Bool.false_eq_true, reduceCtorEq, Nat.reduceLT, Nat.reduceBEq, Int.reduceEq, h_small, h_right, h_next, h_notice, h_waive, hr, hd1, hd2, hwk, hwg, hwg1, hn0, hno, hwa, e, brD, decide_false, decide_true, beq_self_eq_true, Int.reduceBEq, show ¬ ((0:Int) ≥ 2) by decide])
          | (refine wpB_yes (fun h => ?_) (fun h => ?_) <;> simp only [h, go_sem, reduceIte, Nat.reduceEqDiff, Nat.reduceAdd, Nat.reduceSub, Nat.reduceMul, Nat.reduceLeDiff, Bool.false_eq_true, reduceCtorEq, Nat.reduceLT, Nat.reduceBEq, Int.reduceEq, h_small, h_right, h_next, h_notice, h_waive, hr, hd1, hd2, hwk, hwg, hwg1, hn0, hno, hwa, e, brD, decide_false, decide_true, beq_self_eq_true, Int.reduceBEq, show ¬ ((0:Int) ≥ 2) by decide])
          | (refine wpGD_not (fun h => ?_) (fun h => ?_) <;> simp only [h, go_sem, reduceIte, Nat.reduceEqDiff, Nat.reduceAdd, Nat.reduceSub, Nat.reduceMul, Nat.reduceLeDiff, Bool.false_eq_true, reduceCtorEq, Nat.reduceLT, Nat.reduceBEq, Int.reduceEq, h_small, h_right, h_next, h_notice, h_waive, hr, hd1, hd2, hwk, hwg, hwg1, hn0, hno, hwa, e, brD, decide_false, decide_true, beq_self_eq_true, Int.reduceBEq, show ¬ ((0:Int) ≥ 2) by decide])
          | (refine wpGD_yes (fun h => ?_) (fun h => ?_) <;> simp only [h, go_sem, reduceIte, Nat.reduceEqDiff, Nat.reduceAdd, Nat.reduceSub, Nat.reduceMul, Nat.reduceLeDiff, Bool.false_eq_true, reduceCtorEq, Nat.reduceLT, Nat.reduceBEq, Int.reduceEq, h_small, h_right, h_next, h_notice, h_waive, hr, hd1, hd2, hwk, hwg, hwg1, hn0, hno, hwa, e, brD, decide_false, decide_true, beq_self_eq_true, Int.reduceBEq, show ¬ ((0:Int) ≥ 2) by decide])
      · obtain ⟨b', e⟩ : ∃ b', nextF 1 n (kept.tmod 3) g d = (b', 0) := by
          rw [hn]; split
          · exact ⟨_, rfl⟩
          · split
            · split <;> exact ⟨_, rfl⟩
            · split <;> exact ⟨_, rfl⟩
        rw [if_neg (by decide)] at hno
        rw [if_pos (by decide)] at hwa
        simp only [go_sem, reduceIte, Nat.reduceEqDiff, Nat.reduceAdd, Nat.reduceSub, Nat.reduceMul, Nat.reduceLeDiff, Bool.false_eq_true, reduceCtorEq, Nat.reduceLT, Nat.reduceBEq, Int.reduceEq, h_small, h_right, h_next, h_notice, h_waive, hr, hd1, hd2, hwk, hwg, hwg1, hn0, hno, hwa, e, brD, decide_false, decide_true, beq_self_eq_true, Int.reduceBEq, show ¬ ((1:Int) ≥ 2) by decide]
        repeat' first
          | (refine wpG_not (fun h => ?_) (fun h => ?_) <;> simp only [h, go_sem, reduceIte, Nat.reduceEqDiff, Nat.reduceAdd, Nat.reduceSub, Nat.reduceMul, Nat.reduceLeDiff, Bool.false_eq_true, reduceCtorEq, Nat.reduceLT, Nat.reduceBEq, Int.reduceEq, h_small, h_right, h_next, h_notice, h_waive, hr, hd1, hd2, hwk, hwg, hwg1, hn0, hno, hwa, e, brD, decide_false, decide_true, beq_self_eq_true, Int.reduceBEq, show ¬ ((1:Int) ≥ 2) by decide])
          | (refine wpG_yes (fun h => ?_) (fun h => ?_) <;> simp only [h, go_sem, reduceIte, Nat.reduceEqDiff, Nat.reduceAdd, Nat.reduceSub, Nat.reduceMul, Nat.reduceLeDiff, Bool.false_eq_true, reduceCtorEq, Nat.reduceLT, Nat.reduceBEq, Int.reduceEq, h_small, h_right, h_next, h_notice, h_waive, hr, hd1, hd2, hwk, hwg, hwg1, hn0, hno, hwa, e, brD, decide_false, decide_true, beq_self_eq_true, Int.reduceBEq, show ¬ ((1:Int) ≥ 2) by decide])
          | (refine wpB_not (fun h => ?_) (fun h => ?_) <;> simp only [h, go_sem, reduceIte, Nat.reduceEqDiff, Nat.reduceAdd, Nat.reduceSub, Nat.reduceMul, Nat.reduceLeDiff, Bool.false_eq_true, reduceCtorEq, Nat.reduceLT, Nat.reduceBEq, Int.reduceEq, h_small, h_right, h_next, h_notice, h_waive, hr, hd1, hd2, hwk, hwg, hwg1, hn0, hno, hwa, e, brD, decide_false, decide_true, beq_self_eq_true, Int.reduceBEq, show ¬ ((1:Int) ≥ 2) by decide])
          | (refine wpB_yes (fun h => ?_) (fun h => ?_) <;> simp only [h, go_sem, reduceIte, Nat.reduceEqDiff, Nat.reduceAdd, Nat.reduceSub, Nat.reduceMul, Nat.reduceLeDiff, Bool.false_eq_true, reduceCtorEq, Nat.reduceLT, Nat.reduceBEq, Int.reduceEq, h_small, h_right, h_next, h_notice, h_waive, hr, hd1, hd2, hwk, hwg, hwg1, hn0, hno, hwa, e, brD, decide_false, decide_true, beq_self_eq_true, Int.reduceBEq, show ¬ ((1:Int) ≥ 2) by decide])
          | (refine wpGD_not (fun h => ?_) (fun h => ?_) <;> simp only [h, go_sem, reduceIte, Nat.reduceEqDiff, Nat.reduceAdd, Nat.reduceSub, Nat.reduceMul, Nat.reduceLeDiff, Bool.false_eq_true, reduceCtorEq, Nat.reduceLT, Nat.reduceBEq, Int.reduceEq, h_small, h_right, h_next, h_notice, h_waive, hr, hd1, hd2, hwk, hwg, hwg1, hn0, hno, hwa, e, brD, decide_false, decide_true, beq_self_eq_true, Int.reduceBEq, show ¬ ((1:Int) ≥ 2) by decide])
          | (refine wpGD_yes (fun h => ?_) (fun h => ?_) <;> simp only [h, go_sem, reduceIte, Nat.reduceEqDiff, Nat.reduceAdd, Nat.reduceSub, Nat.reduceMul, Nat.reduceLeDiff, Bool.false_eq_true, reduceCtorEq, Nat.reduceLT, Nat.reduceBEq, Int.reduceEq, h_small, h_right, h_next, h_notice, h_waive, hr, hd1, hd2, hwk, hwg, hwg1, hn0, hno, hwa, e, brD, decide_false, decide_true, beq_self_eq_true, Int.reduceBEq, show ¬ ((1:Int) ≥ 2) by decide])
      · rw [if_neg (by omega), if_neg (by omega), if_neg (by omega)] at hn
        rw [if_pos (by decide)] at hno hwa
        simp only [go_sem, reduceIte, Nat.reduceEqDiff, Nat.reduceAdd, Nat.reduceSub, Nat.reduceMul, Nat.reduceLeDiff, Bool.false_eq_true, reduceCtorEq, Nat.reduceLT, Nat.reduceBEq, Int.reduceEq, h_small, h_right, h_next, h_notice, h_waive, hr, hd1, hd2, hwk, hwg, hwg1, hn0, hno, hwa, hn, brD, decide_false, decide_true, beq_self_eq_true, Int.reduceBEq, show ((2:Int) ≥ 2) by decide]
        repeat' first
          | (refine wpG_not (fun h => ?_) (fun h => ?_) <;> simp only [h, go_sem, reduceIte, Nat.reduceEqDiff, Nat.reduceAdd, Nat.reduceSub, Nat.reduceMul, Nat.reduceLeDiff, Bool.false_eq_true, reduceCtorEq, Nat.reduceLT, Nat.reduceBEq, Int.reduceEq, h_small, h_right, h_next, h_notice, h_waive, hr, hd1, hd2, hwk, hwg, hwg1, hn0, hno, hwa, hn, brD, decide_false, decide_true, beq_self_eq_true, Int.reduceBEq, show ((2:Int) ≥ 2) by decide])
          | (refine wpG_yes (fun h => ?_) (fun h => ?_) <;> simp only [h, go_sem, reduceIte, Nat.reduceEqDiff, Nat.reduceAdd, Nat.reduceSub, Nat.reduceMul, Nat.reduceLeDiff, Bool.false_eq_true, reduceCtorEq, Nat.reduceLT, Nat.reduceBEq, Int.reduceEq, h_small, h_right, h_next, h_notice, h_waive, hr, hd1, hd2, hwk, hwg, hwg1, hn0, hno, hwa, hn, brD, decide_false, decide_true, beq_self_eq_true, Int.reduceBEq, show ((2:Int) ≥ 2) by decide])
          | (refine wpB_not (fun h => ?_) (fun h => ?_) <;> simp only [h, go_sem, reduceIte, Nat.reduceEqDiff, Nat.reduceAdd, Nat.reduceSub, Nat.reduceMul, Nat.reduceLeDiff, Bool.false_eq_true, reduceCtorEq, Nat.reduceLT, Nat.reduceBEq, Int.reduceEq, h_small, h_right, h_next, h_notice, h_waive, hr, hd1, hd2, hwk, hwg, hwg1, hn0, hno, hwa, hn, brD, decide_false, decide_true, beq_self_eq_true, Int.reduceBEq, show ((2:Int) ≥ 2) by decide])
          | (refine wpB_yes (fun h => ?_) (fun h => ?_) <;> simp only [h, go_sem, reduceIte, Nat.reduceEqDiff, Nat.reduceAdd, Nat.reduceSub, Nat.reduceMul, Nat.reduceLeDiff, Bool.false_eq_true, reduceCtorEq, Nat.reduceLT, Nat.reduceBEq, Int.reduceEq, h_small, h_right, h_next, h_notice, h_waive, hr, hd1, hd2, hwk, hwg, hwg1, hn0, hno, hwa, hn, brD, decide_false, decide_true, beq_self_eq_true, Int.reduceBEq, show ((2:Int) ≥ 2) by decide])
          | (refine wpGD_not (fun h => ?_) (fun h => ?_) <;> simp only [h, go_sem, reduceIte, Nat.reduceEqDiff, Nat.reduceAdd, Nat.reduceSub, Nat.reduceMul, Nat.reduceLeDiff, Bool.false_eq_true, reduceCtorEq, Nat.reduceLT, Nat.reduceBEq, Int.reduceEq, h_small, h_right, h_next, h_notice, h_waive, hr, hd1, hd2, hwk, hwg, hwg1, hn0, hno, hwa, hn, brD, decide_false, decide_true, beq_self_eq_true, Int.reduceBEq, show ((2:Int) ≥ 2) by decide])
          | (refine wpGD_yes (fun h => ?_) (fun h => ?_) <;> simp only [h, go_sem, reduceIte, Nat.reduceEqDiff, Nat.reduceAdd, Nat.reduceSub, Nat.reduceMul, Nat.reduceLeDiff, Bool.false_eq_true, reduceCtorEq, Nat.reduceLT, Nat.reduceBEq, Int.reduceEq, h_small, h_right, h_next, h_notice, h_waive, hr, hd1, hd2, hwk, hwg, hwg1, hn0, hno, hwa, hn, brD, decide_false, decide_true, beq_self_eq_true, Int.reduceBEq, show ((2:Int) ≥ 2) by decide])
      · rw [if_neg (by omega), if_neg (by omega), if_neg (by omega)] at hn
        rw [if_neg (by decide)] at hno hwa
        simp only [go_sem, reduceIte, Nat.reduceEqDiff, Nat.reduceAdd, Nat.reduceSub, Nat.reduceMul, Nat.reduceLeDiff, Bool.false_eq_true, reduceCtorEq, Nat.reduceLT, Nat.reduceBEq, Int.reduceEq, h_small, h_right, h_next, h_notice, h_waive, hr, hd1, hd2, hwk, hwg, hwg1, hn0, hno, hwa, hn, brD, decide_false, decide_true, beq_self_eq_true, Int.reduceBEq, show ((3:Int) ≥ 2) by decide]
        repeat' first
          | (refine wpG_not (fun h => ?_) (fun h => ?_) <;> simp only [h, go_sem, reduceIte, Nat.reduceEqDiff, Nat.reduceAdd, Nat.reduceSub, Nat.reduceMul, Nat.reduceLeDiff, Bool.false_eq_true, reduceCtorEq, Nat.reduceLT, Nat.reduceBEq, Int.reduceEq, h_small, h_right, h_next, h_notice, h_waive, hr, hd1, hd2, hwk, hwg, hwg1, hn0, hno, hwa, hn, brD, decide_false, decide_true, beq_self_eq_true, Int.reduceBEq, show ((3:Int) ≥ 2) by decide])
          | (refine wpG_yes (fun h => ?_) (fun h => ?_) <;> simp only [h, go_sem, reduceIte, Nat.reduceEqDiff, Nat.reduceAdd, Nat.reduceSub, Nat.reduceMul, Nat.reduceLeDiff, Bool.false_eq_true, reduceCtorEq, Nat.reduceLT, Nat.reduceBEq, Int.reduceEq, h_small, h_right, h_next, h_notice, h_waive, hr, hd1, hd2, hwk, hwg, hwg1, hn0, hno, hwa, hn, brD, decide_false, decide_true, beq_self_eq_true, Int.reduceBEq, show ((3:Int) ≥ 2) by decide])
          | (refine wpB_not (fun h => ?_) (fun h => ?_) <;> simp only [h, go_sem, reduceIte, Nat.reduceEqDiff, Nat.reduceAdd, Nat.reduceSub, Nat.reduceMul, Nat.reduceLeDiff, Bool.false_eq_true, reduceCtorEq, Nat.reduceLT, Nat.reduceBEq, Int.reduceEq, h_small, h_right, h_next, h_notice, h_waive, hr, hd1, hd2, hwk, hwg, hwg1, hn0, hno, hwa, hn, brD, decide_false, decide_true, beq_self_eq_true, Int.reduceBEq, show ((3:Int) ≥ 2) by decide])
          | (refine wpB_yes (fun h => ?_) (fun h => ?_) <;> simp only [h, go_sem, reduceIte, Nat.reduceEqDiff, Nat.reduceAdd, Nat.reduceSub, Nat.reduceMul, Nat.reduceLeDiff, Bool.false_eq_true, reduceCtorEq, Nat.reduceLT, Nat.reduceBEq, Int.reduceEq, h_small, h_right, h_next, h_notice, h_waive, hr, hd1, hd2, hwk, hwg, hwg1, hn0, hno, hwa, hn, brD, decide_false, decide_true, beq_self_eq_true, Int.reduceBEq, show ((3:Int) ≥ 2) by decide])
          | (refine wpGD_not (fun h => ?_) (fun h => ?_) <;> simp only [h, go_sem, reduceIte, Nat.reduceEqDiff, Nat.reduceAdd, Nat.reduceSub, Nat.reduceMul, Nat.reduceLeDiff, Bool.false_eq_true, reduceCtorEq, Nat.reduceLT, Nat.reduceBEq, Int.reduceEq, h_small, h_right, h_next, h_notice, h_waive, hr, hd1, hd2, hwk, hwg, hwg1, hn0, hno, hwa, hn, brD, decide_false, decide_true, beq_self_eq_true, Int.reduceBEq, show ((3:Int) ≥ 2) by decide])
          | (refine wpGD_yes (fun h => ?_) (fun h => ?_) <;> simp only [h, go_sem, reduceIte, Nat.reduceEqDiff, Nat.reduceAdd, Nat.reduceSub, Nat.reduceMul, Nat.reduceLeDiff, Bool.false_eq_true, reduceCtorEq, Nat.reduceLT, Nat.reduceBEq, Int.reduceEq, h_small, h_right, h_next, h_notice, h_waive, hr, hd1, hd2, hwk, hwg, hwg1, hn0, hno, hwa, hn, brD, decide_false, decide_true, beq_self_eq_true, Int.reduceBEq, show ((3:Int) ≥ 2) by decide])
  · have hr : rightB s n = false := by simpa using hr
    simp only [go_sem, reduceIte, Nat.reduceEqDiff, Nat.reduceAdd, Nat.reduceSub, Nat.reduceMul, Nat.reduceLeDiff, Bool.false_eq_true, reduceCtorEq, Nat.reduceLT, Nat.reduceBEq, Int.reduceEq, h_small, h_right, h_next, h_notice, h_waive, hr]
    repeat' first
      | (refine wpG_not (fun h => ?_) (fun h => ?_) <;> simp only [h, go_sem, reduceIte, Nat.reduceEqDiff, Nat.reduceAdd, Nat.reduceSub, Nat.reduceMul, Nat.reduceLeDiff, Bool.false_eq_true, reduceCtorEq, Nat.reduceLT, Nat.reduceBEq, Int.reduceEq, h_small, h_right, h_next, h_notice, h_waive, hr])
      | (refine wpG_yes (fun h => ?_) (fun h => ?_) <;> simp only [h, go_sem, reduceIte, Nat.reduceEqDiff, Nat.reduceAdd, Nat.reduceSub, Nat.reduceMul, Nat.reduceLeDiff, Bool.false_eq_true, reduceCtorEq, Nat.reduceLT, Nat.reduceBEq, Int.reduceEq, h_small, h_right, h_next, h_notice, h_waive, hr])
      | (refine wpB_not (fun h => ?_) (fun h => ?_) <;> simp only [h, go_sem, reduceIte, Nat.reduceEqDiff, Nat.reduceAdd, Nat.reduceSub, Nat.reduceMul, Nat.reduceLeDiff, Bool.false_eq_true, reduceCtorEq, Nat.reduceLT, Nat.reduceBEq, Int.reduceEq, h_small, h_right, h_next, h_notice, h_waive, hr])
      | (refine wpB_yes (fun h => ?_) (fun h => ?_) <;> simp only [h, go_sem, reduceIte, Nat.reduceEqDiff, Nat.reduceAdd, Nat.reduceSub, Nat.reduceMul, Nat.reduceLeDiff, Bool.false_eq_true, reduceCtorEq, Nat.reduceLT, Nat.reduceBEq, Int.reduceEq, h_small, h_right, h_next, h_notice, h_waive, hr])
      | (refine wpGD_not (fun h => ?_) (fun h => ?_) <;> simp only [h, go_sem, reduceIte, Nat.reduceEqDiff, Nat.reduceAdd, Nat.reduceSub, Nat.reduceMul, Nat.reduceLeDiff, Bool.false_eq_true, reduceCtorEq, Nat.reduceLT, Nat.reduceBEq, Int.reduceEq, h_small, h_right, h_next, h_notice, h_waive, hr])
      | (refine wpGD_yes (fun h => ?_) (fun h => ?_) <;> simp only [h, go_sem, reduceIte, Nat.reduceEqDiff, Nat.reduceAdd, Nat.reduceSub, Nat.reduceMul, Nat.reduceLeDiff, Bool.false_eq_true, reduceCtorEq, Nat.reduceLT, Nat.reduceBEq, Int.reduceEq, h_small, h_right, h_next, h_notice, h_waive, hr])

end Go.Mini
