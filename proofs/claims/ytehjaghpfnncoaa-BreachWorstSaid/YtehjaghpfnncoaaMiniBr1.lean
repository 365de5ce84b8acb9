/- The functions of the breaches, in the small semantics. -/
import Derived.Test.YtehjaghpfnncoaaMiniBrCode
set_option linter.unusedSimpArgs false
set_option linter.unusedVariables false
namespace Go.Mini
open Go
set_option maxRecDepth 10000
set_option maxHeartbeats 1000000

def dayB (n : Int) : Bool := decide (n ≥ 0) && decide (n ≤ 200000)
def rightB (s n : Int) : Bool := decide (s ≥ 0) && decide (s < 4) && dayB n && (s != 0 || n == 0)
def rightB2 (s n : Int) : Bool := if (s == 0) = true then n == 0 else decide (s > 0) && decide (s < 4) && decide (n ≥ 0) && decide (n ≤ 200000)
def knownF (s n d : Int) : Int := if (!rightB s n || !dayB d) = true then 1 else if decide (d < n) = true then 20 else 0
/-- A breach, as cells; a breach and an error, as data. -/
abbrev Br := Int × Int
def brL (b : Br) : List Data := [.int .i64 b.1, .int .i64 b.2]
def brD (x : Br × Int) : Data := .tup [.agg [.int .i64 x.1.1, .int .i64 x.1.2], .int .i64 x.2]
def noticeF (s n d : Int) : Br × Int := if (knownF s n d != 0) = true then ((s, n), knownF s n d) else if (s != 2) = true then ((s, n), 7) else ((3, d), 0)
def waiveF (s n d : Int) : Br × Int := if (knownF s n d != 0) = true then ((s, n), knownF s n d) else if (s != 1 && s != 2) = true then ((s, n), 7) else ((0, 0), 0)
def next3 (s n grace now : Int) : Br × Int := if (s == 1 && decide (IntKind.i64.wrap (now - n) ≥ grace)) = true then ((2, now), 0) else ((s, n), 0)
def next2 (s n kept grace now : Int) : Br × Int := if (s == 0 && kept == 0) = true then next3 1 now grace now else next3 s n grace now
def nextF (s n kept grace now : Int) : Br × Int :=
  if (!rightB s n || decide (kept < 0) || decide (kept ≥ 3) || decide (grace < 0) || decide (grace > 1000) || !dayB now) = true then ((s, n), 1)
  else if decide (now < n) = true then ((s, n), 20)
  else if (s == 1 && kept == 1) = true then ((0, 0), 0)
  else next2 s n kept grace now
def notice2F (s n d : Int) : Br × Int := if (!rightB2 s n || decide (d < 0) || decide (d > 200000)) = true then ((s, n), 1) else if decide (d < n) = true then ((s, n), 20) else if (s != 2) = true then ((s, n), 7) else ((3, d), 0)
def waive2F (s n d : Int) : Br × Int := if (!rightB2 s n || decide (d < 0) || decide (d > 200000)) = true then ((s, n), 1) else if decide (d < n) = true then ((s, n), 20) else if (s == 0 || s == 3) = true then ((s, n), 7) else ((0, 0), 0)
def next22F (s n kept grace now : Int) : Br × Int :=
  if (s == 0) = true then (if (kept == 0 && grace == 0) = true then ((2, now), 0) else if (kept == 0) = true then ((1, now), 0) else ((s, n), 0))
  else if (s == 1) = true then (if (kept == 1) = true then ((0, 0), 0) else if decide (now ≥ IntKind.i64.wrap (n + grace)) = true then ((2, now), 0) else ((s, n), 0))
  else ((s, n), 0)
def next2F (s n kept grace now : Int) : Br × Int :=
  if (!rightB2 s n || decide (kept < 0) || decide (kept > 2) || decide (grace < 0) || decide (grace > 1000) || decide (now < 0) || decide (now > 200000)) = true then ((s, n), 1)
  else if decide (now < n) = true then ((s, n), 20) else next22F s n kept grace now
def orderF (n : Int) : Int := if (n.tmod 3 == 0) = true then 0 else if (n.tmod 3 == 2) = true then 1 else 2

noncomputable def F_day : List Data → Option PRes := FF (α := Int) (fun (n : Int) => ([.int .i64 n] : List Data)) (fun (n : Int) => some (.same (.bool (dayB n))))
theorem F_day_inj : ∀ a b : Int, (fun (n : Int) => ([.int .i64 n] : List Data)) a = (fun (n : Int) => ([.int .i64 n] : List Data)) b → a = b := by
    intro n1 n2 h
    simp only [List.cons.injEq, Data.int.injEq, Data.agg.injEq, Data.sl.injEq, Data.bool.injEq, Data.str.injEq, Data.ptr.injEq, Data.tup.injEq, Prod.mk.injEq, true_and, and_true] at h ⊢
    first | exact h | simpa [Prod.ext_iff, and_assoc] using h | grind
@[go_sem] theorem F_day_eq (n : Int) : F_day [.int .i64 n] = some (.same (.bool (dayB n))) := FF_eq F_day_inj n
theorem w_day (T : Tab)  (n : Int) :
    wp T mf_breach_day.body (endS mf_breach_day.res (.same (.bool (dayB n)))) ⟨initTm [.dat (.int .i64 n)], emp⟩ := by
  refine wp_start ?_
  simp only [mf_breach_day]
  simp only [go_sem, reduceIte, Nat.reduceEqDiff, Nat.reduceAdd, Nat.reduceSub, Nat.reduceMul, Nat.reduceLeDiff, Bool.false_eq_true, reduceCtorEq, Nat.reduceLT, Nat.reduceBEq, Int.reduceEq]
  repeat' first
    | (refine wpG_not (fun h => ?_) (fun h => ?_) <;> simp only [h, go_sem, reduceIte, Nat.reduceEqDiff, Nat.reduceAdd, Nat.reduceSub, Nat.reduceMul, Nat.reduceLeDiff, Bool.false_eq_true, reduceCtorEq, Nat.reduceLT, Nat.reduceBEq, Int.reduceEq])
    | (refine wpG_yes (fun h => ?_) (fun h => ?_) <;> simp only [h, go_sem, reduceIte, Nat.reduceEqDiff, Nat.reduceAdd, Nat.reduceSub, Nat.reduceMul, Nat.reduceLeDiff, Bool.false_eq_true, reduceCtorEq, Nat.reduceLT, Nat.reduceBEq, Int.reduceEq])
    | (refine wpB_not (fun h => ?_) (fun h => ?_) <;> simp only [h, go_sem, reduceIte, Nat.reduceEqDiff, Nat.reduceAdd, Nat.reduceSub, Nat.reduceMul, Nat.reduceLeDiff, Bool.false_eq_true, reduceCtorEq, Nat.reduceLT, Nat.reduceBEq, Int.reduceEq])
    | (refine wpB_yes (fun h => ?_) (fun h => ?_) <;> simp only [h, go_sem, reduceIte, Nat.reduceEqDiff, Nat.reduceAdd, Nat.reduceSub, Nat.reduceMul, Nat.reduceLeDiff, Bool.false_eq_true, reduceCtorEq, Nat.reduceLT, Nat.reduceBEq, Int.reduceEq])
    | (refine wpGD_not (fun h => ?_) (fun h => ?_) <;> simp only [h, go_sem, reduceIte, Nat.reduceEqDiff, Nat.reduceAdd, Nat.reduceSub, Nat.reduceMul, Nat.reduceLeDiff, Bool.false_eq_true, reduceCtorEq, Nat.reduceLT, Nat.reduceBEq, Int.reduceEq])
    | (refine wpGD_yes (fun h => ?_) (fun h => ?_) <;> simp only [h, go_sem, reduceIte, Nat.reduceEqDiff, Nat.reduceAdd, Nat.reduceSub, Nat.reduceMul, Nat.reduceLeDiff, Bool.false_eq_true, reduceCtorEq, Nat.reduceLT, Nat.reduceBEq, Int.reduceEq])
  all_goals simp only [dayB, *, reduceIte, Bool.not_true, Bool.not_false, Bool.or_true, Bool.true_or, Bool.or_false, Bool.false_or, Bool.and_true, Bool.true_and, Bool.and_false, Bool.false_and, Bool.false_eq_true, beq_self_eq_true, bne]
  all_goals simp_all

noncomputable def F_right : List Data → Option PRes := FF (α := Int × Int) (fun (s, n) => ([.agg [.int .i64 s, .int .i64 n]] : List Data)) (fun (s, n) => some (.same (.bool (rightB s n))))
theorem F_right_inj : ∀ a b : Int × Int, (fun (s, n) => ([.agg [.int .i64 s, .int .i64 n]] : List Data)) a = (fun (s, n) => ([.agg [.int .i64 s, .int .i64 n]] : List Data)) b → a = b := by
    rintro ⟨s1, n1⟩ ⟨s2, n2⟩ h
    simp only [List.cons.injEq, Data.int.injEq, Data.agg.injEq, Data.sl.injEq, Data.bool.injEq, Data.str.injEq, Data.ptr.injEq, Data.tup.injEq, Prod.mk.injEq, true_and, and_true] at h ⊢
    first | exact h | simpa [Prod.ext_iff, and_assoc] using h | grind
@[go_sem] theorem F_right_eq (s : Int) (n : Int) : F_right [.agg [.int .i64 s, .int .i64 n]] = some (.same (.bool (rightB s n))) := FF_eq F_right_inj (s, n)
theorem w_right (T : Tab) (h_day : T id_breach_day = mkE F_day) (s : Int) (n : Int) :
    wp T mf_breach_Right.body (endS mf_breach_Right.res (.same (.bool (rightB s n)))) ⟨initTm [.dat (.agg [.int .i64 s, .int .i64 n])], emp⟩ := by
  refine wp_start ?_
  simp only [mf_breach_Right]
  simp only [go_sem, reduceIte, Nat.reduceEqDiff, Nat.reduceAdd, Nat.reduceSub, Nat.reduceMul, Nat.reduceLeDiff, Bool.false_eq_true, reduceCtorEq, Nat.reduceLT, Nat.reduceBEq, Int.reduceEq, h_day]
  repeat' first
    | (refine wpG_not (fun h => ?_) (fun h => ?_) <;> simp only [h, go_sem, reduceIte, Nat.reduceEqDiff, Nat.reduceAdd, Nat.reduceSub, Nat.reduceMul, Nat.reduceLeDiff, Bool.false_eq_true, reduceCtorEq, Nat.reduceLT, Nat.reduceBEq, Int.reduceEq, h_day])
    | (refine wpG_yes (fun h => ?_) (fun h => ?_) <;> simp only [h, go_sem, reduceIte, Nat.reduceEqDiff, Nat.reduceAdd, Nat.reduceSub, Nat.reduceMul, Nat.reduceLeDiff, Bool.false_eq_true, reduceCtorEq, Nat.reduceLT, Nat.reduceBEq, Int.reduceEq, h_day])
    | (refine wpB_not (fun h => ?_) (fun h => ?_) <;> simp only [h, go_sem, reduceIte, Nat.reduceEqDiff, Nat.reduceAdd, Nat.reduceSub, Nat.reduceMul, Nat.reduceLeDiff, Bool.false_eq_true, reduceCtorEq, Nat.reduceLT, Nat.reduceBEq, Int.reduceEq, h_day])
    | (refine wpB_yes (fun h => ?_) (fun h => ?_) <;> simp only [h, go_sem, reduceIte, Nat.reduceEqDiff, Nat.reduceAdd, Nat.reduceSub, Nat.reduceMul, Nat.reduceLeDiff, Bool.false_eq_true, reduceCtorEq, Nat.reduceLT, Nat.reduceBEq, Int.reduceEq, h_day])
    | (refine wpGD_not (fun h => ?_) (fun h => ?_) <;> simp only [h, go_sem, reduceIte, Nat.reduceEqDiff, Nat.reduceAdd, Nat.reduceSub, Nat.reduceMul, Nat.reduceLeDiff, Bool.false_eq_true, reduceCtorEq, Nat.reduceLT, Nat.reduceBEq, Int.reduceEq, h_day])
    | (refine wpGD_yes (fun h => ?_) (fun h => ?_) <;> simp only [h, go_sem, reduceIte, Nat.reduceEqDiff, Nat.reduceAdd, Nat.reduceSub, Nat.reduceMul, Nat.reduceLeDiff, Bool.false_eq_true, reduceCtorEq, Nat.reduceLT, Nat.reduceBEq, Int.reduceEq, h_day])
  all_goals simp only [rightB, *, reduceIte, Bool.not_true, Bool.not_false, Bool.or_true, Bool.true_or, Bool.or_false, Bool.false_or, Bool.and_true, Bool.true_and, Bool.and_false, Bool.false_and, Bool.false_eq_true, beq_self_eq_true, bne]
  all_goals simp_all

noncomputable def F_right2 : List Data → Option PRes := FF (α := Int × Int) (fun (s, n) => ([.agg [.int .i64 s, .int .i64 n]] : List Data)) (fun (s, n) => some (.same (.bool (rightB2 s n))))
theorem F_right2_inj : ∀ a b : Int × Int, (fun (s, n) => ([.agg [.int .i64 s, .int .i64 n]] : List Data)) a = (fun (s, n) => ([.agg [.int .i64 s, .int .i64 n]] : List Data)) b → a = b := by
    rintro ⟨s1, n1⟩ ⟨s2, n2⟩ h
    simp only [List.cons.injEq, Data.int.injEq, Data.agg.injEq, Data.sl.injEq, Data.bool.injEq, Data.str.injEq, Data.ptr.injEq, Data.tup.injEq, Prod.mk.injEq, true_and, and_true] at h ⊢
    first | exact h | simpa [Prod.ext_iff, and_assoc] using h | grind
@[go_sem] theorem F_right2_eq (s : Int) (n : Int) : F_right2 [.agg [.int .i64 s, .int .i64 n]] = some (.same (.bool (rightB2 s n))) := FF_eq F_right2_inj (s, n)
theorem w_right2 (T : Tab)  (s : Int) (n : Int) :
    wp T mf_ref27_Right.body (endS mf_ref27_Right.res (.same (.bool (rightB2 s n)))) ⟨initTm [.dat (.agg [.int .i64 s, .int .i64 n])], emp⟩ := by
  refine wp_start ?_
  simp only [mf_ref27_Right]
  simp only [go_sem, reduceIte, Nat.reduceEqDiff, Nat.reduceAdd, Nat.reduceSub, Nat.reduceMul, Nat.reduceLeDiff, Bool.false_eq_true, reduceCtorEq, Nat.reduceLT, Nat.reduceBEq, Int.reduceEq]
  repeat' first
    | (refine wpG_not (fun h => ?_) (fun h => ?_) <;> simp only [h, go_sem, reduceIte, Nat.reduceEqDiff, Nat.reduceAdd, Nat.reduceSub, Nat.reduceMul, Nat.reduceLeDiff, Bool.false_eq_true, reduceCtorEq, Nat.reduceLT, Nat.reduceBEq, Int.reduceEq])
    | (refine wpG_yes (fun h => ?_) (fun h => ?_) <;> simp only [h, go_sem, reduceIte, Nat.reduceEqDiff, Nat.reduceAdd, Nat.reduceSub, Nat.reduceMul, Nat.reduceLeDiff, Bool.false_eq_true, reduceCtorEq, Nat.reduceLT, Nat.reduceBEq, Int.reduceEq])
    | (refine wpB_not (fun h => ?_) (fun h => ?_) <;> simp only [h, go_sem, reduceIte, Nat.reduceEqDiff, Nat.reduceAdd, Nat.reduceSub, Nat.reduceMul, Nat.reduceLeDiff, Bool.false_eq_true, reduceCtorEq, Nat.reduceLT, Nat.reduceBEq, Int.reduceEq])
    | (refine wpB_yes (fun h => ?_) (fun h => ?_) <;> simp only [h, go_sem, reduceIte, Nat.reduceEqDiff, Nat.reduceAdd, Nat.reduceSub, Nat.reduceMul, Nat.reduceLeDiff, Bool.false_eq_true, reduceCtorEq, Nat.reduceLT, Nat.reduceBEq, Int.reduceEq])
    | (refine wpGD_not (fun h => ?_) (fun h => ?_) <;> simp only [h, go_sem, reduceIte, Nat.reduceEqDiff, Nat.reduceAdd, Nat.reduceSub, Nat.reduceMul, Nat.reduceLeDiff, Bool.false_eq_true, reduceCtorEq, Nat.reduceLT, Nat.reduceBEq, Int.reduceEq])
    | (refine wpGD_yes (fun h => ?_) (fun h => ?_) <;> simp only [h, go_sem, reduceIte, Nat.reduceEqDiff, Nat.reduceAdd, Nat.reduceSub, Nat.reduceMul, Nat.reduceLeDiff, Bool.false_eq_true, reduceCtorEq, Nat.reduceLT, Nat.reduceBEq, Int.reduceEq])
  all_goals simp only [rightB2, *, reduceIte, Bool.not_true, Bool.not_false, Bool.or_true, Bool.true_or, Bool.or_false, Bool.false_or, Bool.and_true, Bool.true_and, Bool.and_false, Bool.false_and, Bool.false_eq_true, beq_self_eq_true, bne]
  all_goals simp_all

noncomputable def F_known : List Data → Option PRes := FF (α := Int × Int × Int) (fun (s, n, d) => ([.agg [.int .i64 s, .int .i64 n], .int .i64 d] : List Data)) (fun (s, n, d) => some (.same (.int .i64 (knownF s n d))))
theorem F_known_inj : ∀ a b : Int × Int × Int, (fun (s, n, d) => ([.agg [.int .i64 s, .int .i64 n], .int .i64 d] : List Data)) a = (fun (s, n, d) => ([.agg [.int .i64 s, .int .i64 n], .int .i64 d] : List Data)) b → a = b := by
    rintro ⟨s1, n1, d1⟩ ⟨s2, n2, d2⟩ h
    simp only [List.cons.injEq, Data.int.injEq, Data.agg.injEq, Data.sl.injEq, Data.bool.injEq, Data.str.injEq, Data.ptr.injEq, Data.tup.injEq, Prod.mk.injEq, true_and, and_true] at h ⊢
    first | exact h | simpa [Prod.ext_iff, and_assoc] using h | grind
@[go_sem] theorem F_known_eq (s : Int) (n : Int) (d : Int) : F_known [.agg [.int .i64 s, .int .i64 n], .int .i64 d] = some (.same (.int .i64 (knownF s n d))) := FF_eq F_known_inj (s, n, d)
theorem w_known (T : Tab) (h_right : T id_breach_Right = mkE F_right) (h_day : T id_breach_day = mkE F_day) (s : Int) (n : Int) (d : Int) :
    wp T mf_breach_known.body (endS mf_breach_known.res (.same (.int .i64 (knownF s n d)))) ⟨initTm [.dat (.agg [.int .i64 s, .int .i64 n]), .dat (.int .i64 d)], emp⟩ := by
  refine wp_start ?_
  simp only [mf_breach_known]
  simp only [go_sem, reduceIte, Nat.reduceEqDiff, Nat.reduceAdd, Nat.reduceSub, Nat.reduceMul, Nat.reduceLeDiff, Bool.false_eq_true, reduceCtorEq, Nat.reduceLT, Nat.reduceBEq, Int.reduceEq, h_right, h_day]
  repeat' first
    | (refine wpG_not (fun h => ?_) (fun h => ?_) <;> simp only [h, go_sem, reduceIte, Nat.reduceEqDiff, Nat.reduceAdd, Nat.reduceSub, Nat.reduceMul, Nat.reduceLeDiff, Bool.false_eq_true, reduceCtorEq, Nat.reduceLT, Nat.reduceBEq, Int.reduceEq, h_right, h_day])
    | (refine wpG_yes (fun h => ?_) (fun h => ?_) <;> simp only [h, go_sem, reduceIte, Nat.reduceEqDiff, Nat.reduceAdd, Nat.reduceSub, Nat.reduceMul, Nat.reduceLeDiff, Bool.false_eq_true, reduceCtorEq, Nat.reduceLT, Nat.reduceBEq, Int.reduceEq, h_right, h_day])
    | (refine wpB_not (fun h => ?_) (fun h => ?_) <;> simp only [h, go_sem, reduceIte, Nat.reduceEqDiff, Nat.reduceAdd, Nat.reduceSub, Nat.reduceMul, Nat.reduceLeDiff, Bool.false_eq_true, reduceCtorEq, Nat.reduceLT, Nat.reduceBEq, Int.reduceEq, h_right, h_day])
    | (refine wpB_yes (fun h => ?_) (fun h => ?_) <;> simp only [h, go_sem, reduceIte, Nat.reduceEqDiff, Nat.reduceAdd, Nat.reduceSub, Nat.reduceMul, Nat.reduceLeDiff, Bool.false_eq_true, reduceCtorEq, Nat.reduceLT, Nat.reduceBEq, Int.reduceEq, h_right, h_day])
    | (refine wpGD_not (fun h => ?_) (fun h => ?_) <;> simp only [h, go_sem, reduceIte, Nat.reduceEqDiff, Nat.reduceAdd, Nat.reduceSub, Nat.reduceMul, Nat.reduceLeDiff, Bool.false_eq_true, reduceCtorEq, Nat.reduceLT, Nat.reduceBEq, Int.reduceEq, h_right, h_day])
    | (refine wpGD_yes (fun h => ?_) (fun h => ?_) <;> simp only [h, go_sem, reduceIte, Nat.reduceEqDiff, Nat.reduceAdd, Nat.reduceSub, Nat.reduceMul, Nat.reduceLeDiff, Bool.false_eq_true, reduceCtorEq, Nat.reduceLT, Nat.reduceBEq, Int.reduceEq, h_right, h_day])
  all_goals simp only [knownF, *, reduceIte, Bool.not_true, Bool.not_false, Bool.or_true, Bool.true_or, Bool.or_false, Bool.false_or, Bool.and_true, Bool.true_and, Bool.and_false, Bool.false_and, Bool.false_eq_true, beq_self_eq_true, bne]
  all_goals simp_all

noncomputable def F_notice : List Data → Option PRes := FF (α := Int × Int × Int) (fun (s, n, d) => ([.agg [.int .i64 s, .int .i64 n], .int .i64 d] : List Data)) (fun (s, n, d) => some (.same (brD (noticeF s n d))))
theorem F_notice_inj : ∀ a b : Int × Int × Int, (fun (s, n, d) => ([.agg [.int .i64 s, .int .i64 n], .int .i64 d] : List Data)) a = (fun (s, n, d) => ([.agg [.int .i64 s, .int .i64 n], .int .i64 d] : List Data)) b → a = b := by
    rintro ⟨s1, n1, d1⟩ ⟨s2, n2, d2⟩ h
    simp only [List.cons.injEq, Data.int.injEq, Data.agg.injEq, Data.sl.injEq, Data.bool.injEq, Data.str.injEq, Data.ptr.injEq, Data.tup.injEq, Prod.mk.injEq, true_and, and_true] at h ⊢
    first | exact h | simpa [Prod.ext_iff, and_assoc] using h | grind
@[go_sem] theorem F_notice_eq (s : Int) (n : Int) (d : Int) : F_notice [.agg [.int .i64 s, .int .i64 n], .int .i64 d] = some (.same (brD (noticeF s n d))) := FF_eq F_notice_inj (s, n, d)
theorem w_notice (T : Tab) (h_known : T id_breach_known = mkE F_known) (s : Int) (n : Int) (d : Int) :
    wp T mf_breach_Notice.body (endS mf_breach_Notice.res (.same (brD (noticeF s n d)))) ⟨initTm [.dat (.agg [.int .i64 s, .int .i64 n]), .dat (.int .i64 d)], emp⟩ := by
  refine wp_start ?_
  simp only [mf_breach_Notice]
  simp only [go_sem, reduceIte, Nat.reduceEqDiff, Nat.reduceAdd, Nat.reduceSub, Nat.reduceMul, Nat.reduceLeDiff, Bool.false_eq_true, reduceCtorEq, Nat.reduceLT, Nat.reduceBEq, Int.reduceEq, h_known]
  repeat' first
    | (refine wpG_not (fun h => ?_) (fun h => ?_) <;> simp only [h, go_sem, reduceIte, Nat.reduceEqDiff, Nat.reduceAdd, Nat.reduceSub, Nat.reduceMul, Nat.reduceLeDiff, Bool.false_eq_true, reduceCtorEq, Nat.reduceLT, Nat.reduceBEq, Int.reduceEq, h_known])
    | (refine wpG_yes (fun h => ?_) (fun h => ?_) <;> simp only [h, go_sem, reduceIte, Nat.reduceEqDiff, Nat.reduceAdd, Nat.reduceSub, Nat.reduceMul, Nat.reduceLeDiff, Bool.false_eq_true, reduceCtorEq, Nat.reduceLT, Nat.reduceBEq, Int.reduceEq, h_known])
    | (refine wpB_not (fun h => ?_) (fun h => ?_) <;> simp only [h, go_sem, reduceIte, Nat.reduceEqDiff, Nat.reduceAdd, Nat.reduceSub, Nat.reduceMul, Nat.reduceLeDiff, Bool.false_eq_true, reduceCtorEq, Nat.reduceLT, Nat.reduceBEq, Int.reduceEq, h_known])
    | (refine wpB_yes (fun h => ?_) (fun h => ?_) <;> simp only [h, go_sem, reduceIte, Nat.reduceEqDiff, Nat.reduceAdd, Nat.reduceSub, Nat.reduceMul, Nat.reduceLeDiff, Bool.false_eq_true, reduceCtorEq, Nat.reduceLT, Nat.reduceBEq, Int.reduceEq, h_known])
    | (refine wpGD_not (fun h => ?_) (fun h => ?_) <;> simp only [h, go_sem, reduceIte, Nat.reduceEqDiff, Nat.reduceAdd, Nat.reduceSub, Nat.reduceMul, Nat.reduceLeDiff, Bool.false_eq_true, reduceCtorEq, Nat.reduceLT, Nat.reduceBEq, Int.reduceEq, h_known])
    | (refine wpGD_yes (fun h => ?_) (fun h => ?_) <;> simp only [h, go_sem, reduceIte, Nat.reduceEqDiff, Nat.reduceAdd, Nat.reduceSub, Nat.reduceMul, Nat.reduceLeDiff, Bool.false_eq_true, reduceCtorEq, Nat.reduceLT, Nat.reduceBEq, Int.reduceEq, h_known])
  all_goals simp only [noticeF, brD, *, reduceIte, Bool.not_true, Bool.not_false, Bool.or_true, Bool.true_or, Bool.or_false, Bool.false_or, Bool.and_true, Bool.true_and, Bool.and_false, Bool.false_and, Bool.false_eq_true, beq_self_eq_true, bne]
  all_goals simp_all

noncomputable def F_waive : List Data → Option PRes := FF (α := Int × Int × Int) (fun (s, n, d) => ([.agg [.int .i64 s, .int .i64 n], .int .i64 d] : List Data)) (fun (s, n, d) => some (.same (brD (waiveF s n d))))
theorem F_waive_inj : ∀ a b : Int × Int × Int, (fun (s, n, d) => ([.agg [.int .i64 s, .int .i64 n], .int .i64 d] : List Data)) a = (fun (s, n, d) => ([.agg [.int .i64 s, .int .i64 n], .int .i64 d] : List Data)) b → a = b := by
    rintro ⟨s1, n1, d1⟩ ⟨s2, n2, d2⟩ h
    simp only [List.cons.injEq, Data.int.injEq, Data.agg.injEq, Data.sl.injEq, Data.bool.injEq, Data.str.injEq, Data.ptr.injEq, Data.tup.injEq, Prod.mk.injEq, true_and, and_true] at h ⊢
    first | exact h | simpa [Prod.ext_iff, and_assoc] using h | grind
@[go_sem] theorem F_waive_eq (s : Int) (n : Int) (d : Int) : F_waive [.agg [.int .i64 s, .int .i64 n], .int .i64 d] = some (.same (brD (waiveF s n d))) := FF_eq F_waive_inj (s, n, d)
theorem w_waive (T : Tab) (h_known : T id_breach_known = mkE F_known) (s : Int) (n : Int) (d : Int) :
    wp T mf_breach_Waive.body (endS mf_breach_Waive.res (.same (brD (waiveF s n d)))) ⟨initTm [.dat (.agg [.int .i64 s, .int .i64 n]), .dat (.int .i64 d)], emp⟩ := by
  refine wp_start ?_
  simp only [mf_breach_Waive]
  simp only [go_sem, reduceIte, Nat.reduceEqDiff, Nat.reduceAdd, Nat.reduceSub, Nat.reduceMul, Nat.reduceLeDiff, Bool.false_eq_true, reduceCtorEq, Nat.reduceLT, Nat.reduceBEq, Int.reduceEq, h_known]
  repeat' first
    | (refine wpG_not (fun h => ?_) (fun h => ?_) <;> simp only [h, go_sem, reduceIte, Nat.reduceEqDiff, Nat.reduceAdd, Nat.reduceSub, Nat.reduceMul, Nat.reduceLeDiff, Bool.false_eq_true, reduceCtorEq, Nat.reduceLT, Nat.reduceBEq, Int.reduceEq, h_known])
    | (refine wpG_yes (fun h => ?_) (fun h => ?_) <;> simp only [h, go_sem, reduceIte, Nat.reduceEqDiff, Nat.reduceAdd, Nat.reduceSub, Nat.reduceMul, Nat.reduceLeDiff, Bool.false_eq_true, reduceCtorEq, Nat.reduceLT, Nat.reduceBEq, Int.reduceEq, h_known])
    | (refine wpB_not (fun h => ?_) (fun h => ?_) <;> simp only [h, go_sem, reduceIte, Nat.reduceEqDiff, Nat.reduceAdd, Nat.reduceSub, Nat.reduceMul, Nat.reduceLeDiff, Bool.false_eq_true, reduceCtorEq, Nat.reduceLT, Nat.reduceBEq, Int.reduceEq, h_known])
    | (refine wpB_yes (fun h => ?_) (fun h => ?_) <;> simp only [h, go_sem, reduceIte, Nat.reduceEqDiff, Nat.reduceAdd, Nat.reduceSub, Nat.reduceMul, Nat.reduceLeDiff, Bool.false_eq_true, reduceCtorEq, Nat.reduceLT, Nat.reduceBEq, Int.reduceEq, h_known])
    | (refine wpGD_not (fun h => ?_) (fun h => ?_) <;> simp only [h, go_sem, reduceIte, Nat.reduceEqDiff, Nat.reduceAdd, Nat.reduceSub, Nat.reduceMul, Nat.reduceLeDiff, Bool.false_eq_true, reduceCtorEq, Nat.reduceLT, Nat.reduceBEq, Int.reduceEq, h_known])
    | (refine wpGD_yes (fun h => ?_) (fun h => ?_) <;> simp only [h, go_sem, reduceIte, Nat.reduceEqDiff, Nat.reduceAdd, Nat.reduceSub, Nat.reduceMul, Nat.reduceLeDiff, Bool.false_eq_true, reduceCtorEq, Nat.reduceLT, Nat.reduceBEq, Int.reduceEq, h_known])
  all_goals simp only [waiveF, brD, *, reduceIte, Bool.not_true, Bool.not_false, Bool.or_true, Bool.true_or, Bool.or_false, Bool.false_or, Bool.and_true, Bool.true_and, Bool.and_false, Bool.false_and, Bool.false_eq_true, beq_self_eq_true, bne]
  all_goals simp_all

noncomputable def F_next : List Data → Option PRes := FF (α := Int × Int × Int × Int × Int) (fun (s, n, kept, grace, now) => ([.agg [.int .i64 s, .int .i64 n], .int .i64 kept, .int .i64 grace, .int .i64 now] : List Data)) (fun (s, n, kept, grace, now) => some (.same (brD (nextF s n kept grace now))))
theorem F_next_inj : ∀ a b : Int × Int × Int × Int × Int, (fun (s, n, kept, grace, now) => ([.agg [.int .i64 s, .int .i64 n], .int .i64 kept, .int .i64 grace, .int .i64 now] : List Data)) a = (fun (s, n, kept, grace, now) => ([.agg [.int .i64 s, .int .i64 n], .int .i64 kept, .int .i64 grace, .int .i64 now] : List Data)) b → a = b := by
    rintro ⟨s1, n1, kept1, grace1, now1⟩ ⟨s2, n2, kept2, grace2, now2⟩ h
    simp only [List.cons.injEq, Data.int.injEq, Data.agg.injEq, Data.sl.injEq, Data.bool.injEq, Data.str.injEq, Data.ptr.injEq, Data.tup.injEq, Prod.mk.injEq, true_and, and_true] at h ⊢
    first | exact h | simpa [Prod.ext_iff, and_assoc] using h | grind
@[go_sem] theorem F_next_eq (s : Int) (n : Int) (kept : Int) (grace : Int) (now : Int) : F_next [.agg [.int .i64 s, .int .i64 n], .int .i64 kept, .int .i64 grace, .int .i64 now] = some (.same (brD (nextF s n kept grace now))) := FF_eq F_next_inj (s, n, kept, grace, now)
theorem w_next (T : Tab) (h_right : T id_breach_Right = mkE F_right) (h_day : T id_breach_day = mkE F_day) (s : Int) (n : Int) (kept : Int) (grace : Int) (now : Int) :
    wp T mf_breach_Next.body (endS mf_breach_Next.res (.same (brD (nextF s n kept grace now)))) ⟨initTm [.dat (.agg [.int .i64 s, .int .i64 n]), .dat (.int .i64 kept), .dat (.int .i64 grace), .dat (.int .i64 now)], emp⟩ := by
  refine wp_start ?_
  simp only [mf_breach_Next]
  simp only [go_sem, reduceIte, Nat.reduceEqDiff, Nat.reduceAdd, Nat.reduceSub, Nat.reduceMul, Nat.reduceLeDiff, Bool.false_eq_true, reduceCtorEq, Nat.reduceLT, Nat.reduceBEq, Int.reduceEq, h_right, h_day]
  repeat' first
    | (refine wpG_not (fun h => ?_) (fun h => ?_) <;> simp only [h, go_sem, reduceIte, Nat.reduceEqDiff, Nat.reduceAdd, Nat.reduceSub, Nat.reduceMul, Nat.reduceLeDiff, Bool.false_eq_true, reduceCtorEq, Nat.reduceLT, Nat.reduceBEq, Int.reduceEq, h_right, h_day])
    | (refine wpG_yes (fun h => ?_) (fun h => ?_) <;> simp only [h, go_sem, reduceIte, Nat.reduceEqDiff, Nat.reduceAdd, Nat.reduceSub, Nat.reduceMul, Nat.reduceLeDiff, Bool.false_eq_true, reduceCtorEq, Nat.reduceLT, Nat.reduceBEq, Int.reduceEq, h_right, h_day])
    | (refine wpB_not (fun h => ?_) (fun h => ?_) <;> simp only [h, go_sem, reduceIte, Nat.reduceEqDiff, Nat.reduceAdd, Nat.reduceSub, Nat.reduceMul, Nat.reduceLeDiff, Bool.false_eq_true, reduceCtorEq, Nat.reduceLT, Nat.reduceBEq, Int.reduceEq, h_right, h_day])
    | (refine wpB_yes (fun h => ?_) (fun h => ?_) <;> simp only [h, go_sem, reduceIte, Nat.reduceEqDiff, Nat.reduceAdd, Nat.reduceSub, Nat.reduceMul, Nat.reduceLeDiff, Bool.false_eq_true, reduceCtorEq, Nat.reduceLT, Nat.reduceBEq, Int.reduceEq, h_right, h_day])
    | (refine wpGD_not (fun h => ?_) (fun h => ?_) <;> simp only [h, go_sem, reduceIte, Nat.reduceEqDiff, Nat.reduceAdd, Nat.reduceSub, Nat.reduceMul, Nat.reduceLeDiff, Bool.false_eq_true, reduceCtorEq, Nat.reduceLT, Nat.reduceBEq, Int.reduceEq, h_right, h_day])
    | (refine wpGD_yes (fun h => ?_) (fun h => ?_) <;> simp only [h, go_sem, reduceIte, Nat.reduceEqDiff, Nat.reduceAdd, Nat.reduceSub, Nat.reduceMul, Nat.reduceLeDiff, Bool.false_eq_true, reduceCtorEq, Nat.reduceLT, Nat.reduceBEq, Int.reduceEq, h_right, h_day])
  all_goals simp only [nextF, next2, next3, brD, *, reduceIte, Bool.not_true, Bool.not_false, Bool.or_true, Bool.true_or, Bool.or_false, Bool.false_or, Bool.and_true, Bool.true_and, Bool.and_false, Bool.false_and, Bool.false_eq_true, beq_self_eq_true, bne]
  all_goals simp_all

noncomputable def F_notice2 : List Data → Option PRes := FF (α := Int × Int × Int) (fun (s, n, d) => ([.agg [.int .i64 s, .int .i64 n], .int .i64 d] : List Data)) (fun (s, n, d) => some (.same (brD (notice2F s n d))))
theorem F_notice2_inj : ∀ a b : Int × Int × Int, (fun (s, n, d) => ([.agg [.int .i64 s, .int .i64 n], .int .i64 d] : List Data)) a = (fun (s, n, d) => ([.agg [.int .i64 s, .int .i64 n], .int .i64 d] : List Data)) b → a = b := by
    rintro ⟨s1, n1, d1⟩ ⟨s2, n2, d2⟩ h
    simp only [List.cons.injEq, Data.int.injEq, Data.agg.injEq, Data.sl.injEq, Data.bool.injEq, Data.str.injEq, Data.ptr.injEq, Data.tup.injEq, Prod.mk.injEq, true_and, and_true] at h ⊢
    first | exact h | simpa [Prod.ext_iff, and_assoc] using h | grind
@[go_sem] theorem F_notice2_eq (s : Int) (n : Int) (d : Int) : F_notice2 [.agg [.int .i64 s, .int .i64 n], .int .i64 d] = some (.same (brD (notice2F s n d))) := FF_eq F_notice2_inj (s, n, d)
theorem w_notice2 (T : Tab) (h_right2 : T id_ref27_Right = mkE F_right2) (s : Int) (n : Int) (d : Int) :
    wp T mf_ref27_Notice.body (endS mf_ref27_Notice.res (.same (brD (notice2F s n d)))) ⟨initTm [.dat (.agg [.int .i64 s, .int .i64 n]), .dat (.int .i64 d)], emp⟩ := by
  refine wp_start ?_
  simp only [mf_ref27_Notice]
  simp only [go_sem, reduceIte, Nat.reduceEqDiff, Nat.reduceAdd, Nat.reduceSub, Nat.reduceMul, Nat.reduceLeDiff, Bool.false_eq_true, reduceCtorEq, Nat.reduceLT, Nat.reduceBEq, Int.reduceEq, h_right2]
  repeat' first
    | (refine wpG_not (fun h => ?_) (fun h => ?_) <;> simp only [h, go_sem, reduceIte, Nat.reduceEqDiff, Nat.reduceAdd, Nat.reduceSub, Nat.reduceMul, Nat.reduceLeDiff, Bool.false_eq_true, reduceCtorEq, Nat.reduceLT, Nat.reduceBEq, Int.reduceEq, h_right2])
    | (refine wpG_yes (fun h => ?_) (fun h => ?_) <;> simp only [h, go_sem, reduceIte, Nat.reduceEqDiff, Nat.reduceAdd, Nat.reduceSub, Nat.reduceMul, Nat.reduceLeDiff, Bool.false_eq_true, reduceCtorEq, Nat.reduceLT, Nat.reduceBEq, Int.reduceEq, h_right2])
    | (refine wpB_not (fun h => ?_) (fun h => ?_) <;> simp only [h, go_sem, reduceIte, Nat.reduceEqDiff, Nat.reduceAdd, Nat.reduceSub, Nat.reduceMul, Nat.reduceLeDiff, Bool.false_eq_true, reduceCtorEq, Nat.reduceLT, Nat.reduceBEq, Int.reduceEq, h_right2])
    | (refine wpB_yes (fun h => ?_) (fun h => ?_) <;> simp only [h, go_sem, reduceIte, Nat.reduceEqDiff, Nat.reduceAdd, Nat.reduceSub, Nat.reduceMul, Nat.reduceLeDiff, Bool.false_eq_true, reduceCtorEq, Nat.reduceLT, Nat.reduceBEq, Int.reduceEq, h_right2])
    | (refine wpGD_not (fun h => ?_) (fun h => ?_) <;> simp only [h, go_sem, reduceIte, Nat.reduceEqDiff, Nat.reduceAdd, Nat.reduceSub, Nat.reduceMul, Nat.reduceLeDiff, Bool.false_eq_true, reduceCtorEq, Nat.reduceLT, Nat.reduceBEq, Int.reduceEq, h_right2])
    | (refine wpGD_yes (fun h => ?_) (fun h => ?_) <;> simp only [h, go_sem, reduceIte, Nat.reduceEqDiff, Nat.reduceAdd, Nat.reduceSub, Nat.reduceMul, Nat.reduceLeDiff, Bool.false_eq_true, reduceCtorEq, Nat.reduceLT, Nat.reduceBEq, Int.reduceEq, h_right2])
  all_goals simp only [notice2F, brD, *, reduceIte, Bool.not_true, Bool.not_false, Bool.or_true, Bool.true_or, Bool.or_false, Bool.false_or, Bool.and_true, Bool.true_and, Bool.and_false, Bool.false_and, Bool.false_eq_true, beq_self_eq_true, bne]
  all_goals simp_all

noncomputable def F_waive2 : List Data → Option PRes := FF (α := Int × Int × Int) (fun (s, n, d) => ([.agg [.int .i64 s, .int .i64 n], .int .i64 d] : List Data)) (fun (s, n, d) => some (.same (brD (waive2F s n d))))
theorem F_waive2_inj : ∀ a b : Int × Int × Int, (fun (s, n, d) => ([.agg [.int .i64 s, .int .i64 n], .int .i64 d] : List Data)) a = (fun (s, n, d) => ([.agg [.int .i64 s, .int .i64 n], .int .i64 d] : List Data)) b → a = b := by
    rintro ⟨s1, n1, d1⟩ ⟨s2, n2, d2⟩ h
    simp only [List.cons.injEq, Data.int.injEq, Data.agg.injEq, Data.sl.injEq, Data.bool.injEq, Data.str.injEq, Data.ptr.injEq, Data.tup.injEq, Prod.mk.injEq, true_and, and_true] at h ⊢
    first | exact h | simpa [Prod.ext_iff, and_assoc] using h | grind
@[go_sem] theorem F_waive2_eq (s : Int) (n : Int) (d : Int) : F_waive2 [.agg [.int .i64 s, .int .i64 n], .int .i64 d] = some (.same (brD (waive2F s n d))) := FF_eq F_waive2_inj (s, n, d)
theorem w_waive2 (T : Tab) (h_right2 : T id_ref27_Right = mkE F_right2) (s : Int) (n : Int) (d : Int) :
    wp T mf_ref27_Waive.body (endS mf_ref27_Waive.res (.same (brD (waive2F s n d)))) ⟨initTm [.dat (.agg [.int .i64 s, .int .i64 n]), .dat (.int .i64 d)], emp⟩ := by
  refine wp_start ?_
  simp only [mf_ref27_Waive]
  simp only [go_sem, reduceIte, Nat.reduceEqDiff, Nat.reduceAdd, Nat.reduceSub, Nat.reduceMul, Nat.reduceLeDiff, Bool.false_eq_true, reduceCtorEq, Nat.reduceLT, Nat.reduceBEq, Int.reduceEq, h_right2]
  repeat' first
    | (refine wpG_not (fun h => ?_) (fun h => ?_) <;> simp only [h, go_sem, reduceIte, Nat.reduceEqDiff, Nat.reduceAdd, Nat.reduceSub, Nat.reduceMul, Nat.reduceLeDiff, Bool.false_eq_true, reduceCtorEq, Nat.reduceLT, Nat.reduceBEq, Int.reduceEq, h_right2])
    | (refine wpG_yes (fun h => ?_) (fun h => ?_) <;> simp only [h, go_sem, reduceIte, Nat.reduceEqDiff, Nat.reduceAdd, Nat.reduceSub, Nat.reduceMul, Nat.reduceLeDiff, Bool.false_eq_true, reduceCtorEq, Nat.reduceLT, Nat.reduceBEq, Int.reduceEq, h_right2])
    | (refine wpB_not (fun h => ?_) (fun h => ?_) <;> simp only [h, go_sem, reduceIte, Nat.reduceEqDiff, Nat.reduceAdd, Nat.reduceSub, Nat.reduceMul, Nat.reduceLeDiff, Bool.false_eq_true, reduceCtorEq, Nat.reduceLT, Nat.reduceBEq, Int.reduceEq, h_right2])
    | (refine wpB_yes (fun h => ?_) (fun h => ?_) <;> simp only [h, go_sem, reduceIte, Nat.reduceEqDiff, Nat.reduceAdd, Nat.reduceSub, Nat.reduceMul, Nat.reduceLeDiff, Bool.false_eq_true, reduceCtorEq, Nat.reduceLT, Nat.reduceBEq, Int.reduceEq, h_right2])
    | (refine wpGD_not (fun h => ?_) (fun h => ?_) <;> simp only [h, go_sem, reduceIte, Nat.reduceEqDiff, Nat.reduceAdd, Nat.reduceSub, Nat.reduceMul, Nat.reduceLeDiff, Bool.false_eq_true, reduceCtorEq, Nat.reduceLT, Nat.reduceBEq, Int.reduceEq, h_right2])
    | (refine wpGD_yes (fun h => ?_) (fun h => ?_) <;> simp only [h, go_sem, reduceIte, Nat.reduceEqDiff, Nat.reduceAdd, Nat.reduceSub, Nat.reduceMul, Nat.reduceLeDiff, Bool.false_eq_true, reduceCtorEq, Nat.reduceLT, Nat.reduceBEq, Int.reduceEq, h_right2])
  all_goals simp only [waive2F, brD, *, reduceIte, Bool.not_true, Bool.not_false, Bool.or_true, Bool.true_or, Bool.or_false, Bool.false_or, Bool.and_true, Bool.true_and, Bool.and_false, Bool.false_and, Bool.false_eq_true, beq_self_eq_true, bne]
  all_goals simp_all

noncomputable def F_next2 : List Data → Option PRes := FF (α := Int × Int × Int × Int × Int) (fun (s, n, kept, grace, now) => ([.agg [.int .i64 s, .int .i64 n], .int .i64 kept, .int .i64 grace, .int .i64 now] : List Data)) (fun (s, n, kept, grace, now) => some (.same (brD (next2F s n kept grace now))))
theorem F_next2_inj : ∀ a b : Int × Int × Int × Int × Int, (fun (s, n, kept, grace, now) => ([.agg [.int .i64 s, .int .i64 n], .int .i64 kept, .int .i64 grace, .int .i64 now] : List Data)) a = (fun (s, n, kept, grace, now) => ([.agg [.int .i64 s, .int .i64 n], .int .i64 kept, .int .i64 grace, .int .i64 now] : List Data)) b → a = b := by
    rintro ⟨s1, n1, kept1, grace1, now1⟩ ⟨s2, n2, kept2, grace2, now2⟩ h
    simp only [List.cons.injEq, Data.int.injEq, Data.agg.injEq, Data.sl.injEq, Data.bool.injEq, Data.str.injEq, Data.ptr.injEq, Data.tup.injEq, Prod.mk.injEq, true_and, and_true] at h ⊢
    first | exact h | simpa [Prod.ext_iff, and_assoc] using h | grind
@[go_sem] theorem F_next2_eq (s : Int) (n : Int) (kept : Int) (grace : Int) (now : Int) : F_next2 [.agg [.int .i64 s, .int .i64 n], .int .i64 kept, .int .i64 grace, .int .i64 now] = some (.same (brD (next2F s n kept grace now))) := FF_eq F_next2_inj (s, n, kept, grace, now)
theorem w_next2 (T : Tab) (h_right2 : T id_ref27_Right = mkE F_right2) (s : Int) (n : Int) (kept : Int) (grace : Int) (now : Int) :
    wp T mf_ref27_Next.body (endS mf_ref27_Next.res (.same (brD (next2F s n kept grace now)))) ⟨initTm [.dat (.agg [.int .i64 s, .int .i64 n]), .dat (.int .i64 kept), .dat (.int .i64 grace), .dat (.int .i64 now)], emp⟩ := by
  refine wp_start ?_
  simp only [mf_ref27_Next]
  simp only [go_sem, reduceIte, Nat.reduceEqDiff, Nat.reduceAdd, Nat.reduceSub, Nat.reduceMul, Nat.reduceLeDiff, Bool.false_eq_true, reduceCtorEq, Nat.reduceLT, Nat.reduceBEq, Int.reduceEq, h_right2]
  repeat' first
    | (refine wpG_not (fun h => ?_) (fun h => ?_) <;> simp only [h, go_sem, reduceIte, Nat.reduceEqDiff, Nat.reduceAdd, Nat.reduceSub, Nat.reduceMul, Nat.reduceLeDiff, Bool.false_eq_true, reduceCtorEq, Nat.reduceLT, Nat.reduceBEq, Int.reduceEq, h_right2])
    | (refine wpG_yes (fun h => ?_) (fun h => ?_) <;> simp only [h, go_sem, reduceIte, Nat.reduceEqDiff, Nat.reduceAdd, Nat.reduceSub, Nat.reduceMul, Nat.reduceLeDiff, Bool.false_eq_true, reduceCtorEq, Nat.reduceLT, Nat.reduceBEq, Int.reduceEq, h_right2])
    | (refine wpB_not (fun h => ?_) (fun h => ?_) <;> simp only [h, go_sem, reduceIte, Nat.reduceEqDiff, Nat.reduceAdd, Nat.reduceSub, Nat.reduceMul, Nat.reduceLeDiff, Bool.false_eq_true, reduceCtorEq, Nat.reduceLT, Nat.reduceBEq, Int.reduceEq, h_right2])
    | (refine wpB_yes (fun h => ?_) (fun h => ?_) <;> simp only [h, go_sem, reduceIte, Nat.reduceEqDiff, Nat.reduceAdd, Nat.reduceSub, Nat.reduceMul, Nat.reduceLeDiff, Bool.false_eq_true, reduceCtorEq, Nat.reduceLT, Nat.reduceBEq, Int.reduceEq, h_right2])
    | (refine wpGD_not (fun h => ?_) (fun h => ?_) <;> simp only [h, go_sem, reduceIte, Nat.reduceEqDiff, Nat.reduceAdd, Nat.reduceSub, Nat.reduceMul, Nat.reduceLeDiff, Bool.false_eq_true, reduceCtorEq, Nat.reduceLT, Nat.reduceBEq, Int.reduceEq, h_right2])
    | (refine wpGD_yes (fun h => ?_) (fun h => ?_) <;> simp only [h, go_sem, reduceIte, Nat.reduceEqDiff, Nat.reduceAdd, Nat.reduceSub, Nat.reduceMul, Nat.reduceLeDiff, Bool.false_eq_true, reduceCtorEq, Nat.reduceLT, Nat.reduceBEq, Int.reduceEq, h_right2])
  all_goals simp only [next2F, next22F, brD, *, reduceIte, Bool.not_true, Bool.not_false, Bool.or_true, Bool.true_or, Bool.or_false, Bool.false_or, Bool.and_true, Bool.true_and, Bool.and_false, Bool.false_and, Bool.false_eq_true, beq_self_eq_true, bne]
  all_goals simp_all

noncomputable def F_order : List Data → Option PRes := FF (α := Int) (fun (n : Int) => ([.int .u8 n] : List Data)) (fun (n : Int) => some (.same (.int .i64 (orderF n))))
theorem F_order_inj : ∀ a b : Int, (fun (n : Int) => ([.int .u8 n] : List Data)) a = (fun (n : Int) => ([.int .u8 n] : List Data)) b → a = b := by
    intro n1 n2 h
    simp only [List.cons.injEq, Data.int.injEq, Data.agg.injEq, Data.sl.injEq, Data.bool.injEq, Data.str.injEq, Data.ptr.injEq, Data.tup.injEq, Prod.mk.injEq, true_and, and_true] at h ⊢
    first | exact h | simpa [Prod.ext_iff, and_assoc] using h | grind
@[go_sem] theorem F_order_eq (n : Int) : F_order [.int .u8 n] = some (.same (.int .i64 (orderF n))) := FF_eq F_order_inj n
theorem w_order (T : Tab)  (n : Int) :
    wp T mf_law27_order.body (endS mf_law27_order.res (.same (.int .i64 (orderF n)))) ⟨initTm [.dat (.int .u8 n)], emp⟩ := by
  refine wp_start ?_
  simp only [mf_law27_order]
  simp only [go_sem, reduceIte, Nat.reduceEqDiff, Nat.reduceAdd, Nat.reduceSub, Nat.reduceMul, Nat.reduceLeDiff, Bool.false_eq_true, reduceCtorEq, Nat.reduceLT, Nat.reduceBEq, Int.reduceEq]
  repeat' first
    | (refine wpG_not (fun h => ?_) (fun h => ?_) <;> simp only [h, go_sem, reduceIte, Nat.reduceEqDiff, Nat.reduceAdd, Nat.reduceSub, Nat.reduceMul, Nat.reduceLeDiff, Bool.false_eq_true, reduceCtorEq, Nat.reduceLT, Nat.reduceBEq, Int.reduceEq])
    | (refine wpG_yes (fun h => ?_) (fun h => ?_) <;> simp only [h, go_sem, reduceIte, Nat.reduceEqDiff, Nat.reduceAdd, Nat.reduceSub, Nat.reduceMul, Nat.reduceLeDiff, Bool.false_eq_true, reduceCtorEq, Nat.reduceLT, Nat.reduceBEq, Int.reduceEq])
    | (refine wpB_not (fun h => ?_) (fun h => ?_) <;> simp only [h, go_sem, reduceIte, Nat.reduceEqDiff, Nat.reduceAdd, Nat.reduceSub, Nat.reduceMul, Nat.reduceLeDiff, Bool.false_eq_true, reduceCtorEq, Nat.reduceLT, Nat.reduceBEq, Int.reduceEq])
    | (refine wpB_yes (fun h => ?_) (fun h => ?_) <;> simp only [h, go_sem, reduceIte, Nat.reduceEqDiff, Nat.reduceAdd, Nat.reduceSub, Nat.reduceMul, Nat.reduceLeDiff, Bool.false_eq_true, reduceCtorEq, Nat.reduceLT, Nat.reduceBEq, Int.reduceEq])
    | (refine wpGD_not (fun h => ?_) (fun h => ?_) <;> simp only [h, go_sem, reduceIte, Nat.reduceEqDiff, Nat.reduceAdd, Nat.reduceSub, Nat.reduceMul, Nat.reduceLeDiff, Bool.false_eq_true, reduceCtorEq, Nat.reduceLT, Nat.reduceBEq, Int.reduceEq])
    | (refine wpGD_yes (fun h => ?_) (fun h => ?_) <;> simp only [h, go_sem, reduceIte, Nat.reduceEqDiff, Nat.reduceAdd, Nat.reduceSub, Nat.reduceMul, Nat.reduceLeDiff, Bool.false_eq_true, reduceCtorEq, Nat.reduceLT, Nat.reduceBEq, Int.reduceEq])
  all_goals simp only [orderF, *, reduceIte, Bool.not_true, Bool.not_false, Bool.or_true, Bool.true_or, Bool.or_false, Bool.false_or, Bool.and_true, Bool.true_and, Bool.and_false, Bool.false_and, Bool.false_eq_true, beq_self_eq_true, bne]
  all_goals simp_all

end Go.Mini
