/- The loops over breaches. -/
import Derived.Test.YtehjaghpfnncoaaMiniBr1
set_option linter.unusedSimpArgs false
set_option linter.unusedVariables false
namespace Go.Mini
open Go
set_option maxRecDepth 10000
set_option maxHeartbeats 1000000

theorem brL_inj : ∀ a b : Br, brL a = brL b → a = b := by
  rintro ⟨a, b⟩ ⟨c, d⟩ h
  simpa [brL] using h

def fallenGo : Int → List Br → Int
  | _, [] => -1
  | i, b :: r => if (b.1 == 2) = true then i else fallenGo (i + 1) r

noncomputable def F_fallen : List Data → Option PRes := FF (α := List Br) (fun (l : List Br) => ([.sl (l.map brL)] : List Data)) (fun (l : List Br) => onlyIf (l.length ≤ 100000) (.same (.int .i64 (fallenGo 0 l))))
theorem F_fallen_inj : ∀ a b : List Br, (fun (l : List Br) => ([.sl (l.map brL)] : List Data)) a = (fun (l : List Br) => ([.sl (l.map brL)] : List Data)) b → a = b := by
    intro l1 l2 h
    exact map_inj brL_inj _ _ (by simpa using h)
@[go_sem] theorem F_fallen_eq (l : List Br) (hc : l.length ≤ 100000) : F_fallen [.sl (l.map brL)] = some (.same (.int .i64 (fallenGo 0 l))) := (FF_eq F_fallen_inj l).trans (onlyIf_pos hc _)
theorem w_fallen (T : Tab)  (l : List Br) (hc : l.length ≤ 100000) :
    wp T mf_law27_fallen.body (endS mf_law27_fallen.res (.same (.int .i64 (fallenGo 0 l)))) ⟨initTm [.dat (.sl (l.map brL))], emp⟩ := by
  refine wp_start ?_
  simp only [mf_law27_fallen]
  simp only [go_sem, reduceIte, Nat.reduceEqDiff, Nat.reduceAdd, Nat.reduceSub, Nat.reduceMul, Nat.reduceLeDiff, Bool.false_eq_true, reduceCtorEq, Nat.reduceLT, Nat.reduceBEq, Int.reduceEq]
  repeat' first
    | (refine wpG_not (fun h => ?_) (fun h => ?_) <;> simp only [h, go_sem, reduceIte, Nat.reduceEqDiff, Nat.reduceAdd, Nat.reduceSub, Nat.reduceMul, Nat.reduceLeDiff, Bool.false_eq_true, reduceCtorEq, Nat.reduceLT, Nat.reduceBEq, Int.reduceEq])
    | (refine wpG_yes (fun h => ?_) (fun h => ?_) <;> simp only [h, go_sem, reduceIte, Nat.reduceEqDiff, Nat.reduceAdd, Nat.reduceSub, Nat.reduceMul, Nat.reduceLeDiff, Bool.false_eq_true, reduceCtorEq, Nat.reduceLT, Nat.reduceBEq, Int.reduceEq])
    | (refine wpB_not (fun h => ?_) (fun h => ?_) <;> simp only [h, go_sem, reduceIte, Nat.reduceEqDiff, Nat.reduceAdd, Nat.reduceSub, Nat.reduceMul, Nat.reduceLeDiff, Bool.false_eq_true, reduceCtorEq, Nat.reduceLT, Nat.reduceBEq, Int.reduceEq])
    | (refine wpB_yes (fun h => ?_) (fun h => ?_) <;> simp only [h, go_sem, reduceIte, Nat.reduceEqDiff, Nat.reduceAdd, Nat.reduceSub, Nat.reduceMul, Nat.reduceLeDiff, Bool.false_eq_true, reduceCtorEq, Nat.reduceLT, Nat.reduceBEq, Int.reduceEq])
    | (refine wpGD_not (fun h => ?_) (fun h => ?_) <;> simp only [h, go_sem, reduceIte, Nat.reduceEqDiff, Nat.reduceAdd, Nat.reduceSub, Nat.reduceMul, Nat.reduceLeDiff, Bool.false_eq_true, reduceCtorEq, Nat.reduceLT, Nat.reduceBEq, Int.reduceEq])
    | (refine wpGD_yes (fun h => ?_) (fun h => ?_) <;> simp only [h, go_sem, reduceIte, Nat.reduceEqDiff, Nat.reduceAdd, Nat.reduceSub, Nat.reduceMul, Nat.reduceLeDiff, Bool.false_eq_true, reduceCtorEq, Nat.reduceLT, Nat.reduceBEq, Int.reduceEq])
  refine wp_loop_keep [0] [] (fun i tm mem => 0 ≤ i ∧ i ≤ (l.length : Int) ∧ fallenGo 0 l = fallenGo i (l.drop i.toNat) ∧ tm 3 = .dat (.int .i64 i)) (fun i => (l.length - i).toNat) 0 ⟨by omega, by omega, by simp, by simp [go_sem]⟩ ?_
  intro vs ms hvs hms
  simp only [go_sem, reduceIte, Nat.reduceEqDiff, Nat.reduceAdd, Nat.reduceSub, Nat.reduceMul, Nat.reduceLeDiff, Bool.false_eq_true, reduceCtorEq, Nat.reduceLT, Nat.reduceBEq, Int.reduceEq] at hvs hms
  subst hvs hms
  rintro i tm mem hk - ⟨hi0, hi, hf, h3⟩
  simp only [go_sem, reduceIte, Nat.reduceEqDiff, Nat.reduceAdd, Nat.reduceSub, Nat.reduceMul, Nat.reduceLeDiff, Bool.false_eq_true, reduceCtorEq, Nat.reduceLT, Nat.reduceBEq, Int.reduceEq, List.cons.injEq] at hk
  have h0 := hk
  rcases Decidable.em (i < l.length) with hlt | hge
  · obtain ⟨⟨s, n⟩, hx, hd, -⟩ := at_list l i hi0 hlt
    simp only [go_sem, reduceIte, Nat.reduceEqDiff, Nat.reduceAdd, Nat.reduceSub, Nat.reduceMul, Nat.reduceLeDiff, Bool.false_eq_true, reduceCtorEq, Nat.reduceLT, Nat.reduceBEq, Int.reduceEq, h0, h3, hx, hlt, hi0, List.length_map, List.getElem?_map, decide_true, brL, List.cons.injEq]
    repeat' first
      | (refine wpG_not (fun h => ?_) (fun h => ?_) <;> simp only [h, go_sem, reduceIte, Nat.reduceEqDiff, Nat.reduceAdd, Nat.reduceSub, Nat.reduceMul, Nat.reduceLeDiff, Bool.false_eq_true, reduceCtorEq, Nat.reduceLT, Nat.reduceBEq, Int.reduceEq, h0, h3, hx, hlt, hi0, List.length_map, List.getElem?_map, decide_true, brL, List.cons.injEq])
      | (refine wpG_yes (fun h => ?_) (fun h => ?_) <;> simp only [h, go_sem, reduceIte, Nat.reduceEqDiff, Nat.reduceAdd, Nat.reduceSub, Nat.reduceMul, Nat.reduceLeDiff, Bool.false_eq_true, reduceCtorEq, Nat.reduceLT, Nat.reduceBEq, Int.reduceEq, h0, h3, hx, hlt, hi0, List.length_map, List.getElem?_map, decide_true, brL, List.cons.injEq])
      | (refine wpB_not (fun h => ?_) (fun h => ?_) <;> simp only [h, go_sem, reduceIte, Nat.reduceEqDiff, Nat.reduceAdd, Nat.reduceSub, Nat.reduceMul, Nat.reduceLeDiff, Bool.false_eq_true, reduceCtorEq, Nat.reduceLT, Nat.reduceBEq, Int.reduceEq, h0, h3, hx, hlt, hi0, List.length_map, List.getElem?_map, decide_true, brL, List.cons.injEq])
      | (refine wpB_yes (fun h => ?_) (fun h => ?_) <;> simp only [h, go_sem, reduceIte, Nat.reduceEqDiff, Nat.reduceAdd, Nat.reduceSub, Nat.reduceMul, Nat.reduceLeDiff, Bool.false_eq_true, reduceCtorEq, Nat.reduceLT, Nat.reduceBEq, Int.reduceEq, h0, h3, hx, hlt, hi0, List.length_map, List.getElem?_map, decide_true, brL, List.cons.injEq])
      | (refine wpGD_not (fun h => ?_) (fun h => ?_) <;> simp only [h, go_sem, reduceIte, Nat.reduceEqDiff, Nat.reduceAdd, Nat.reduceSub, Nat.reduceMul, Nat.reduceLeDiff, Bool.false_eq_true, reduceCtorEq, Nat.reduceLT, Nat.reduceBEq, Int.reduceEq, h0, h3, hx, hlt, hi0, List.length_map, List.getElem?_map, decide_true, brL, List.cons.injEq])
      | (refine wpGD_yes (fun h => ?_) (fun h => ?_) <;> simp only [h, go_sem, reduceIte, Nat.reduceEqDiff, Nat.reduceAdd, Nat.reduceSub, Nat.reduceMul, Nat.reduceLeDiff, Bool.false_eq_true, reduceCtorEq, Nat.reduceLT, Nat.reduceBEq, Int.reduceEq, h0, h3, hx, hlt, hi0, List.length_map, List.getElem?_map, decide_true, brL, List.cons.injEq])
    · rw [hf, hd]; simp only [fallenGo, *, reduceIte, Bool.not_true, Bool.not_false, Bool.or_true, Bool.true_or, Bool.or_false, Bool.false_or, Bool.and_true, Bool.true_and, Bool.and_false, Bool.false_and, Bool.false_eq_true, beq_self_eq_true, bne]
    · exact ⟨i + 1, by omega, by omega, by omega, by rw [hf, hd]; simp only [fallenGo, *, reduceIte, Bool.not_true, Bool.not_false, Bool.or_true, Bool.true_or, Bool.or_false, Bool.false_or, Bool.and_true, Bool.true_and, Bool.and_false, Bool.false_and, Bool.false_eq_true, beq_self_eq_true, bne], by rw [wrap64 _ (by omega) (by omega)]⟩
  · have he : l.drop i.toNat = [] := List.drop_eq_nil_of_le (by omega)
    simp only [go_sem, reduceIte, Nat.reduceEqDiff, Nat.reduceAdd, Nat.reduceSub, Nat.reduceMul, Nat.reduceLeDiff, Bool.false_eq_true, reduceCtorEq, Nat.reduceLT, Nat.reduceBEq, Int.reduceEq, h0, h3, hge, List.length_map, decide_false]
    repeat' first
      | (refine wpG_not (fun h => ?_) (fun h => ?_) <;> simp only [h, go_sem, reduceIte, Nat.reduceEqDiff, Nat.reduceAdd, Nat.reduceSub, Nat.reduceMul, Nat.reduceLeDiff, Bool.false_eq_true, reduceCtorEq, Nat.reduceLT, Nat.reduceBEq, Int.reduceEq, h0, h3, hge, List.length_map, decide_false])
      | (refine wpG_yes (fun h => ?_) (fun h => ?_) <;> simp only [h, go_sem, reduceIte, Nat.reduceEqDiff, Nat.reduceAdd, Nat.reduceSub, Nat.reduceMul, Nat.reduceLeDiff, Bool.false_eq_true, reduceCtorEq, Nat.reduceLT, Nat.reduceBEq, Int.reduceEq, h0, h3, hge, List.length_map, decide_false])
      | (refine wpB_not (fun h => ?_) (fun h => ?_) <;> simp only [h, go_sem, reduceIte, Nat.reduceEqDiff, Nat.reduceAdd, Nat.reduceSub, Nat.reduceMul, Nat.reduceLeDiff, Bool.false_eq_true, reduceCtorEq, Nat.reduceLT, Nat.reduceBEq, Int.reduceEq, h0, h3, hge, List.length_map, decide_false])
      | (refine wpB_yes (fun h => ?_) (fun h => ?_) <;> simp only [h, go_sem, reduceIte, Nat.reduceEqDiff, Nat.reduceAdd, Nat.reduceSub, Nat.reduceMul, Nat.reduceLeDiff, Bool.false_eq_true, reduceCtorEq, Nat.reduceLT, Nat.reduceBEq, Int.reduceEq, h0, h3, hge, List.length_map, decide_false])
      | (refine wpGD_not (fun h => ?_) (fun h => ?_) <;> simp only [h, go_sem, reduceIte, Nat.reduceEqDiff, Nat.reduceAdd, Nat.reduceSub, Nat.reduceMul, Nat.reduceLeDiff, Bool.false_eq_true, reduceCtorEq, Nat.reduceLT, Nat.reduceBEq, Int.reduceEq, h0, h3, hge, List.length_map, decide_false])
      | (refine wpGD_yes (fun h => ?_) (fun h => ?_) <;> simp only [h, go_sem, reduceIte, Nat.reduceEqDiff, Nat.reduceAdd, Nat.reduceSub, Nat.reduceMul, Nat.reduceLeDiff, Bool.false_eq_true, reduceCtorEq, Nat.reduceLT, Nat.reduceBEq, Int.reduceEq, h0, h3, hge, List.length_map, decide_false])
    simp [hf, he, fallenGo]

/-- The worse of two. -/
def worse (w b : Br) : Br := if (decide (b.1 > w.1) || b.1 == w.1 && decide (b.2 < w.2)) = true then b else w
def worstGo : Br → List Br → Br
  | w, [] => w
  | w, b :: r => if (!rightB b.1 b.2) = true then (0, 0) else worstGo (worse w b) r

noncomputable def F_worst : List Data → Option PRes := FF (α := List Br) (fun (l : List Br) => ([.sl (l.map brL)] : List Data)) (fun (l : List Br) => onlyIf (l.length ≤ 100000) (.same (.agg (brL (worstGo (0, 0) l)))))
theorem F_worst_inj : ∀ a b : List Br, (fun (l : List Br) => ([.sl (l.map brL)] : List Data)) a = (fun (l : List Br) => ([.sl (l.map brL)] : List Data)) b → a = b := by
    intro l1 l2 h
    exact map_inj brL_inj _ _ (by simpa using h)
@[go_sem] theorem F_worst_eq (l : List Br) (hc : l.length ≤ 100000) : F_worst [.sl (l.map brL)] = some (.same (.agg (brL (worstGo (0, 0) l)))) := (FF_eq F_worst_inj l).trans (onlyIf_pos hc _)
theorem w_worst (T : Tab) (h_right : T id_breach_Right = mkE F_right) (l : List Br) (hc : l.length ≤ 100000) :
    wp T mf_breach_Worst.body (endS mf_breach_Worst.res (.same (.agg (brL (worstGo (0, 0) l))))) ⟨initTm [.dat (.sl (l.map brL))], emp⟩ := by
  refine wp_start ?_
  simp only [mf_breach_Worst]
  simp only [go_sem, reduceIte, Nat.reduceEqDiff, Nat.reduceAdd, Nat.reduceSub, Nat.reduceMul, Nat.reduceLeDiff, Bool.false_eq_true, reduceCtorEq, Nat.reduceLT, Nat.reduceBEq, Int.reduceEq, h_right]
  repeat' first
    | (refine wpG_not (fun h => ?_) (fun h => ?_) <;> simp only [h, go_sem, reduceIte, Nat.reduceEqDiff, Nat.reduceAdd, Nat.reduceSub, Nat.reduceMul, Nat.reduceLeDiff, Bool.false_eq_true, reduceCtorEq, Nat.reduceLT, Nat.reduceBEq, Int.reduceEq, h_right])
    | (refine wpG_yes (fun h => ?_) (fun h => ?_) <;> simp only [h, go_sem, reduceIte, Nat.reduceEqDiff, Nat.reduceAdd, Nat.reduceSub, Nat.reduceMul, Nat.reduceLeDiff, Bool.false_eq_true, reduceCtorEq, Nat.reduceLT, Nat.reduceBEq, Int.reduceEq, h_right])
    | (refine wpB_not (fun h => ?_) (fun h => ?_) <;> simp only [h, go_sem, reduceIte, Nat.reduceEqDiff, Nat.reduceAdd, Nat.reduceSub, Nat.reduceMul, Nat.reduceLeDiff, Bool.false_eq_true, reduceCtorEq, Nat.reduceLT, Nat.reduceBEq, Int.reduceEq, h_right])
    | (refine wpB_yes (fun h => ?_) (fun h => ?_) <;> simp only [h, go_sem, reduceIte, Nat.reduceEqDiff, Nat.reduceAdd, Nat.reduceSub, Nat.reduceMul, Nat.reduceLeDiff, Bool.false_eq_true, reduceCtorEq, Nat.reduceLT, Nat.reduceBEq, Int.reduceEq, h_right])
    | (refine wpGD_not (fun h => ?_) (fun h => ?_) <;> simp only [h, go_sem, reduceIte, Nat.reduceEqDiff, Nat.reduceAdd, Nat.reduceSub, Nat.reduceMul, Nat.reduceLeDiff, Bool.false_eq_true, reduceCtorEq, Nat.reduceLT, Nat.reduceBEq, Int.reduceEq, h_right])
    | (refine wpGD_yes (fun h => ?_) (fun h => ?_) <;> simp only [h, go_sem, reduceIte, Nat.reduceEqDiff, Nat.reduceAdd, Nat.reduceSub, Nat.reduceMul, Nat.reduceLeDiff, Bool.false_eq_true, reduceCtorEq, Nat.reduceLT, Nat.reduceBEq, Int.reduceEq, h_right])
  refine wp_loop_keep [2, 3, 7, 8] [7002] (fun (i, a, b) tm mem => 0 ≤ i ∧ i ≤ (l.length : Int) ∧ worstGo (0, 0) l = worstGo (a, b) (l.drop i.toNat) ∧ tm 9 = .dat (.int .i64 i) ∧ mem 7003 = some (0, [.dat (.int .i64 a), .dat (.int .i64 b)])) (fun (i, _) => (l.length - i).toNat) (0, 0, 0) ⟨by omega, by omega, by simp, by simp [go_sem], by simp [go_sem]⟩ ?_
  intro vs ms hvs hms
  simp only [go_sem, reduceIte, Nat.reduceEqDiff, Nat.reduceAdd, Nat.reduceSub, Nat.reduceMul, Nat.reduceLeDiff, Bool.false_eq_true, reduceCtorEq, Nat.reduceLT, Nat.reduceBEq, Int.reduceEq, h_right] at hvs hms
  subst hvs hms
  rintro ⟨i, a, b⟩ tm mem hk hm ⟨hi0, hi, hf, h9, m3⟩
  simp only [go_sem, reduceIte, Nat.reduceEqDiff, Nat.reduceAdd, Nat.reduceSub, Nat.reduceMul, Nat.reduceLeDiff, Bool.false_eq_true, reduceCtorEq, Nat.reduceLT, Nat.reduceBEq, Int.reduceEq, h_right, List.cons.injEq] at hk hm
  obtain ⟨h2, h3, h7, h8⟩ := hk
  rcases Decidable.em (i < l.length) with hlt | hge
  · obtain ⟨⟨s, n⟩, hx, hd, -⟩ := at_list l i hi0 hlt
    simp only [go_sem, reduceIte, Nat.reduceEqDiff, Nat.reduceAdd, Nat.reduceSub, Nat.reduceMul, Nat.reduceLeDiff, Bool.false_eq_true, reduceCtorEq, Nat.reduceLT, Nat.reduceBEq, Int.reduceEq, h_right, h2, h3, h7, h8, h9, hm, m3, hx, hlt, hi0, List.length_map, List.getElem?_map, decide_true, brL, List.cons.injEq]
    repeat' first
      | (refine wpG_not (fun h => ?_) (fun h => ?_) <;> simp only [h, go_sem, reduceIte, Nat.reduceEqDiff, Nat.reduceAdd, Nat.reduceSub, Nat.reduceMul, Nat.reduceLeDiff, Bool.false_eq_true, reduceCtorEq, Nat.reduceLT, Nat.reduceBEq, Int.reduceEq, h_right, h2, h3, h7, h8, h9, hm, m3, hx, hlt, hi0, List.length_map, List.getElem?_map, decide_true, brL, List.cons.injEq])
      | (refine wpG_yes (fun h => ?_) (fun h => ?_) <;> simp only [h, go_sem, reduceIte, Nat.reduceEqDiff, Nat.reduceAdd, Nat.reduceSub, Nat.reduceMul, Nat.reduceLeDiff, Bool.false_eq_true, reduceCtorEq, Nat.reduceLT, Nat.reduceBEq, Int.reduceEq, h_right, h2, h3, h7, h8, h9, hm, m3, hx, hlt, hi0, List.length_map, List.getElem?_map, decide_true, brL, List.cons.injEq])
      | (refine wpB_not (fun h => ?_) (fun h => ?_) <;> simp only [h, go_sem, reduceIte, Nat.reduceEqDiff, Nat.reduceAdd, Nat.reduceSub, Nat.reduceMul, Nat.reduceLeDiff, Bool.false_eq_true, reduceCtorEq, Nat.reduceLT, Nat.reduceBEq, Int.reduceEq, h_right, h2, h3, h7, h8, h9, hm, m3, hx, hlt, hi0, List.length_map, List.getElem?_map, decide_true, brL, List.cons.injEq])
      | (refine wpB_yes (fun h => ?_) (fun h => ?_) <;> simp only [h, go_sem, reduceIte, Nat.reduceEqDiff, Nat.reduceAdd, Nat.reduceSub, Nat.reduceMul, Nat.reduceLeDiff, Bool.false_eq_true, reduceCtorEq, Nat.reduceLT, Nat.reduceBEq, Int.reduceEq, h_right, h2, h3, h7, h8, h9, hm, m3, hx, hlt, hi0, List.length_map, List.getElem?_map, decide_true, brL, List.cons.injEq])
      | (refine wpGD_not (fun h => ?_) (fun h => ?_) <;> simp only [h, go_sem, reduceIte, Nat.reduceEqDiff, Nat.reduceAdd, Nat.reduceSub, Nat.reduceMul, Nat.reduceLeDiff, Bool.false_eq_true, reduceCtorEq, Nat.reduceLT, Nat.reduceBEq, Int.reduceEq, h_right, h2, h3, h7, h8, h9, hm, m3, hx, hlt, hi0, List.length_map, List.getElem?_map, decide_true, brL, List.cons.injEq])
      | (refine wpGD_yes (fun h => ?_) (fun h => ?_) <;> simp only [h, go_sem, reduceIte, Nat.reduceEqDiff, Nat.reduceAdd, Nat.reduceSub, Nat.reduceMul, Nat.reduceLeDiff, Bool.false_eq_true, reduceCtorEq, Nat.reduceLT, Nat.reduceBEq, Int.reduceEq, h_right, h2, h3, h7, h8, h9, hm, m3, hx, hlt, hi0, List.length_map, List.getElem?_map, decide_true, brL, List.cons.injEq])
    all_goals first
      | (rw [hf, hd]; simp only [worstGo, *, reduceIte, Bool.not_true, Bool.not_false, Bool.or_true, Bool.true_or, Bool.or_false, Bool.false_or, Bool.and_true, Bool.true_and, Bool.and_false, Bool.false_and, Bool.false_eq_true, beq_self_eq_true, bne]; done)
      | skip
    all_goals first
      | exact ⟨(i + 1, s, n), by dsimp only; omega, by dsimp only; omega, by dsimp only; omega, by rw [hf, hd]; simp only [worstGo, worse, *, reduceIte, Bool.not_true, Bool.not_false, Bool.or_true, Bool.true_or, Bool.or_false, Bool.false_or, Bool.and_true, Bool.true_and, Bool.and_false, Bool.false_and, Bool.false_eq_true, beq_self_eq_true, bne], by rw [wrap64 _ (by omega) (by omega)], rfl⟩
      | exact ⟨(i + 1, a, b), by dsimp only; omega, by dsimp only; omega, by dsimp only; omega, by rw [hf, hd]; simp only [worstGo, worse, *, reduceIte, Bool.not_true, Bool.not_false, Bool.or_true, Bool.true_or, Bool.or_false, Bool.false_or, Bool.and_true, Bool.true_and, Bool.and_false, Bool.false_and, Bool.false_eq_true, beq_self_eq_true, bne], by rw [wrap64 _ (by omega) (by omega)], rfl⟩
      | trace_state
  · have he : l.drop i.toNat = [] := List.drop_eq_nil_of_le (by omega)
    simp only [go_sem, reduceIte, Nat.reduceEqDiff, Nat.reduceAdd, Nat.reduceSub, Nat.reduceMul, Nat.reduceLeDiff, Bool.false_eq_true, reduceCtorEq, Nat.reduceLT, Nat.reduceBEq, Int.reduceEq, h_right, h2, h3, h7, h8, h9, hm, m3, hge, List.length_map, decide_false]
    repeat' first
      | (refine wpG_not (fun h => ?_) (fun h => ?_) <;> simp only [h, go_sem, reduceIte, Nat.reduceEqDiff, Nat.reduceAdd, Nat.reduceSub, Nat.reduceMul, Nat.reduceLeDiff, Bool.false_eq_true, reduceCtorEq, Nat.reduceLT, Nat.reduceBEq, Int.reduceEq, h_right, h2, h3, h7, h8, h9, hm, m3, hge, List.length_map, decide_false])
      | (refine wpG_yes (fun h => ?_) (fun h => ?_) <;> simp only [h, go_sem, reduceIte, Nat.reduceEqDiff, Nat.reduceAdd, Nat.reduceSub, Nat.reduceMul, Nat.reduceLeDiff, Bool.false_eq_true, reduceCtorEq, Nat.reduceLT, Nat.reduceBEq, Int.reduceEq, h_right, h2, h3, h7, h8, h9, hm, m3, hge, List.length_map, decide_false])
      | (refine wpB_not (fun h => ?_) (fun h => ?_) <;> simp only [h, go_sem, reduceIte, Nat.reduceEqDiff, Nat.reduceAdd, Nat.reduceSub, Nat.reduceMul, Nat.reduceLeDiff, Bool.false_eq_true, reduceCtorEq, Nat.reduceLT, Nat.reduceBEq, Int.reduceEq, h_right, h2, h3, h7, h8, h9, hm, m3, hge, List.length_map, decide_false])
      | (refine wpB_yes (fun h => ?_) (fun h => ?_) <;> simp only [h, go_sem, reduceIte, Nat.reduceEqDiff, Nat.reduceAdd, Nat.reduceSub, Nat.reduceMul, Nat.reduceLeDiff, Bool.false_eq_true, reduceCtorEq, Nat.reduceLT, Nat.reduceBEq, Int.reduceEq, h_right, h2, h3, h7, h8, h9, hm, m3, hge, List.length_map, decide_false])
      | (refine wpGD_not (fun h => ?_) (fun h => ?_) <;> simp only [h, go_sem, reduceIte, Nat.reduceEqDiff, Nat.reduceAdd, Nat.reduceSub, Nat.reduceMul, Nat.reduceLeDiff, Bool.false_eq_true, reduceCtorEq, Nat.reduceLT, Nat.reduceBEq, Int.reduceEq, h_right, h2, h3, h7, h8, h9, hm, m3, hge, List.length_map, decide_false])
      | (refine wpGD_yes (fun h => ?_) (fun h => ?_) <;> simp only [h, go_sem, reduceIte, Nat.reduceEqDiff, Nat.reduceAdd, Nat.reduceSub, Nat.reduceMul, Nat.reduceLeDiff, Bool.false_eq_true, reduceCtorEq, Nat.reduceLT, Nat.reduceBEq, Int.reduceEq, h_right, h2, h3, h7, h8, h9, hm, m3, hge, List.length_map, decide_false])
    simp [hf, he, worstGo, brL]

def sinceGo (k : Int) : Int → List Br → Int
  | s, [] => s
  | s, b :: r => sinceGo k (if (b.1 == k && (decide (s < 0) || decide (b.2 < s))) = true then b.2 else s) r
def worstK : Nat → List Br → Br
  | 0, _ => (0, 0)
  | k + 1, l => if decide (sinceGo (k + 1 : Nat) (-1) l ≥ 0) = true then (((k + 1 : Nat) : Int), sinceGo (k + 1 : Nat) (-1) l) else worstK k l
def worst2 (l : List Br) : Br := if (l.all fun b => rightB2 b.1 b.2) = true then worstK 3 l else (0, 0)

noncomputable def F_worst2 : List Data → Option PRes := FF (α := List Br) (fun (l : List Br) => ([.sl (l.map brL)] : List Data)) (fun (l : List Br) => onlyIf (l.length ≤ 100000) (.same (.agg (brL (worst2 l)))))
theorem F_worst2_inj : ∀ a b : List Br, (fun (l : List Br) => ([.sl (l.map brL)] : List Data)) a = (fun (l : List Br) => ([.sl (l.map brL)] : List Data)) b → a = b := by
    intro l1 l2 h
    exact map_inj brL_inj _ _ (by simpa using h)
@[go_sem] theorem F_worst2_eq (l : List Br) (hc : l.length ≤ 100000) : F_worst2 [.sl (l.map brL)] = some (.same (.agg (brL (worst2 l)))) := (FF_eq F_worst2_inj l).trans (onlyIf_pos hc _)
theorem w_worst2 (T : Tab) (h_right2 : T id_ref27_Right = mkE F_right2) (l : List Br) (hc : l.length ≤ 100000) :
    wp T mf_ref27_Worst.body (endS mf_ref27_Worst.res (.same (.agg (brL (worst2 l))))) ⟨initTm [.dat (.sl (l.map brL))], emp⟩ := by
  refine wp_start ?_
  simp only [mf_ref27_Worst]
  simp only [go_sem, reduceIte, Nat.reduceEqDiff, Nat.reduceAdd, Nat.reduceSub, Nat.reduceMul, Nat.reduceLeDiff, Bool.false_eq_true, reduceCtorEq, Nat.reduceLT, Nat.reduceBEq, Int.reduceEq, h_right2]
  repeat' first
    | (refine wpG_not (fun h => ?_) (fun h => ?_) <;> simp only [h, go_sem, reduceIte, Nat.reduceEqDiff, Nat.reduceAdd, Nat.reduceSub, Nat.reduceMul, Nat.reduceLeDiff, Bool.false_eq_true, reduceCtorEq, Nat.reduceLT, Nat.reduceBEq, Int.reduceEq, h_right2])
    | (refine wpG_yes (fun h => ?_) (fun h => ?_) <;> simp only [h, go_sem, reduceIte, Nat.reduceEqDiff, Nat.reduceAdd, Nat.reduceSub, Nat.reduceMul, Nat.reduceLeDiff, Bool.false_eq_true, reduceCtorEq, Nat.reduceLT, Nat.reduceBEq, Int.reduceEq, h_right2])
    | (refine wpB_not (fun h => ?_) (fun h => ?_) <;> simp only [h, go_sem, reduceIte, Nat.reduceEqDiff, Nat.reduceAdd, Nat.reduceSub, Nat.reduceMul, Nat.reduceLeDiff, Bool.false_eq_true, reduceCtorEq, Nat.reduceLT, Nat.reduceBEq, Int.reduceEq, h_right2])
    | (refine wpB_yes (fun h => ?_) (fun h => ?_) <;> simp only [h, go_sem, reduceIte, Nat.reduceEqDiff, Nat.reduceAdd, Nat.reduceSub, Nat.reduceMul, Nat.reduceLeDiff, Bool.false_eq_true, reduceCtorEq, Nat.reduceLT, Nat.reduceBEq, Int.reduceEq, h_right2])
    | (refine wpGD_not (fun h => ?_) (fun h => ?_) <;> simp only [h, go_sem, reduceIte, Nat.reduceEqDiff, Nat.reduceAdd, Nat.reduceSub, Nat.reduceMul, Nat.reduceLeDiff, Bool.false_eq_true, reduceCtorEq, Nat.reduceLT, Nat.reduceBEq, Int.reduceEq, h_right2])
    | (refine wpGD_yes (fun h => ?_) (fun h => ?_) <;> simp only [h, go_sem, reduceIte, Nat.reduceEqDiff, Nat.reduceAdd, Nat.reduceSub, Nat.reduceMul, Nat.reduceLeDiff, Bool.false_eq_true, reduceCtorEq, Nat.reduceLT, Nat.reduceBEq, Int.reduceEq, h_right2])
  refine wp_loop_keep [0, 2] [15002] (fun i tm mem => 0 ≤ i ∧ i ≤ (l.length : Int) ∧ (l.all fun b => rightB2 b.1 b.2) = ((l.drop i.toNat).all fun b => rightB2 b.1 b.2) ∧ tm 3 = .dat (.int .i64 i)) (fun i => (l.length - i).toNat) 0 ⟨by omega, by omega, by simp, by simp [go_sem]⟩ ?_
  intro vs ms hvs hms
  simp only [go_sem, reduceIte, Nat.reduceEqDiff, Nat.reduceAdd, Nat.reduceSub, Nat.reduceMul, Nat.reduceLeDiff, Bool.false_eq_true, reduceCtorEq, Nat.reduceLT, Nat.reduceBEq, Int.reduceEq, h_right2] at hvs hms
  subst hvs hms
  rintro i tm mem hk hm ⟨hi0, hi, hf, h3⟩
  simp only [go_sem, reduceIte, Nat.reduceEqDiff, Nat.reduceAdd, Nat.reduceSub, Nat.reduceMul, Nat.reduceLeDiff, Bool.false_eq_true, reduceCtorEq, Nat.reduceLT, Nat.reduceBEq, Int.reduceEq, h_right2, List.cons.injEq] at hk hm
  obtain ⟨h0, h2⟩ := hk
  rcases Decidable.em (i < l.length) with hlt | hge
  · obtain ⟨⟨s, n⟩, hx, hd, -⟩ := at_list l i hi0 hlt
    simp only [go_sem, reduceIte, Nat.reduceEqDiff, Nat.reduceAdd, Nat.reduceSub, Nat.reduceMul, Nat.reduceLeDiff, Bool.false_eq_true, reduceCtorEq, Nat.reduceLT, Nat.reduceBEq, Int.reduceEq, h_right2, h0, h2, h3, hm, hx, hlt, hi0, List.length_map, List.getElem?_map, decide_true, brL, List.cons.injEq]
    repeat' first
      | (refine wpG_not (fun h => ?_) (fun h => ?_) <;> simp only [h, go_sem, reduceIte, Nat.reduceEqDiff, Nat.reduceAdd, Nat.reduceSub, Nat.reduceMul, Nat.reduceLeDiff, Bool.false_eq_true, reduceCtorEq, Nat.reduceLT, Nat.reduceBEq, Int.reduceEq, h_right2, h0, h2, h3, hm, hx, hlt, hi0, List.length_map, List.getElem?_map, decide_true, brL, List.cons.injEq])
      | (refine wpG_yes (fun h => ?_) (fun h => ?_) <;> simp only [h, go_sem, reduceIte, Nat.reduceEqDiff, Nat.reduceAdd, Nat.reduceSub, Nat.reduceMul, Nat.reduceLeDiff, Bool.false_eq_true, reduceCtorEq, Nat.reduceLT, Nat.reduceBEq, Int.reduceEq, h_right2, h0, h2, h3, hm, hx, hlt, hi0, List.length_map, List.getElem?_map, decide_true, brL, List.cons.injEq])
      | (refine wpB_not (fun h => ?_) (fun h => ?_) <;> simp only [h, go_sem, reduceIte, Nat.reduceEqDiff, Nat.reduceAdd, Nat.reduceSub, Nat.reduceMul, Nat.reduceLeDiff, Bool.false_eq_true, reduceCtorEq, Nat.reduceLT, Nat.reduceBEq, Int.reduceEq, h_right2, h0, h2, h3, hm, hx, hlt, hi0, List.length_map, List.getElem?_map, decide_true, brL, List.cons.injEq])
      | (refine wpB_yes (fun h => ?_) (fun h => ?_) <;> simp only [h, go_sem, reduceIte, Nat.reduceEqDiff, Nat.reduceAdd, Nat.reduceSub, Nat.reduceMul, Nat.reduceLeDiff, Bool.false_eq_true, reduceCtorEq, Nat.reduceLT, Nat.reduceBEq, Int.reduceEq, h_right2, h0, h2, h3, hm, hx, hlt, hi0, List.length_map, List.getElem?_map, decide_true, brL, List.cons.injEq])
      | (refine wpGD_not (fun h => ?_) (fun h => ?_) <;> simp only [h, go_sem, reduceIte, Nat.reduceEqDiff, Nat.reduceAdd, Nat.reduceSub, Nat.reduceMul, Nat.reduceLeDiff, Bool.false_eq_true, reduceCtorEq, Nat.reduceLT, Nat.reduceBEq, Int.reduceEq, h_right2, h0, h2, h3, hm, hx, hlt, hi0, List.length_map, List.getElem?_map, decide_true, brL, List.cons.injEq])
      | (refine wpGD_yes (fun h => ?_) (fun h => ?_) <;> simp only [h, go_sem, reduceIte, Nat.reduceEqDiff, Nat.reduceAdd, Nat.reduceSub, Nat.reduceMul, Nat.reduceLeDiff, Bool.false_eq_true, reduceCtorEq, Nat.reduceLT, Nat.reduceBEq, Int.reduceEq, h_right2, h0, h2, h3, hm, hx, hlt, hi0, List.length_map, List.getElem?_map, decide_true, brL, List.cons.injEq])
    · have e : worst2 l = (0, 0) := by
        unfold worst2
        rw [hf, hd]
        simp only [List.all_cons, *, reduceIte, Bool.not_true, Bool.not_false, Bool.or_true, Bool.true_or, Bool.or_false, Bool.false_or, Bool.and_true, Bool.true_and, Bool.and_false, Bool.false_and, Bool.false_eq_true, beq_self_eq_true, bne]
      rw [e]
    · exact ⟨i + 1, by omega, by omega, by omega, by rw [hf, hd]; simp only [List.all_cons, *, reduceIte, Bool.not_true, Bool.not_false, Bool.or_true, Bool.true_or, Bool.or_false, Bool.false_or, Bool.and_true, Bool.true_and, Bool.and_false, Bool.false_and, Bool.false_eq_true, beq_self_eq_true, bne], by rw [wrap64 _ (by omega) (by omega)]⟩
  · have he : l.drop i.toNat = [] := List.drop_eq_nil_of_le (by omega)
    have hall : (l.all fun b => rightB2 b.1 b.2) = true := by rw [hf, he]; rfl
    simp only [go_sem, reduceIte, Nat.reduceEqDiff, Nat.reduceAdd, Nat.reduceSub, Nat.reduceMul, Nat.reduceLeDiff, Bool.false_eq_true, reduceCtorEq, Nat.reduceLT, Nat.reduceBEq, Int.reduceEq, h_right2, h0, h2, h3, hm, hge, List.length_map, decide_false]
    repeat' first
      | (refine wpG_not (fun h => ?_) (fun h => ?_) <;> simp only [h, go_sem, reduceIte, Nat.reduceEqDiff, Nat.reduceAdd, Nat.reduceSub, Nat.reduceMul, Nat.reduceLeDiff, Bool.false_eq_true, reduceCtorEq, Nat.reduceLT, Nat.reduceBEq, Int.reduceEq, h_right2, h0, h2, h3, hm, hge, List.length_map, decide_false])
      | (refine wpG_yes (fun h => ?_) (fun h => ?_) <;> simp only [h, go_sem, reduceIte, Nat.reduceEqDiff, Nat.reduceAdd, Nat.reduceSub, Nat.reduceMul, Nat.reduceLeDiff, Bool.false_eq_true, reduceCtorEq, Nat.reduceLT, Nat.reduceBEq, Int.reduceEq, h_right2, h0, h2, h3, hm, hge, List.length_map, decide_false])
      | (refine wpB_not (fun h => ?_) (fun h => ?_) <;> simp only [h, go_sem, reduceIte, Nat.reduceEqDiff, Nat.reduceAdd, Nat.reduceSub, Nat.reduceMul, Nat.reduceLeDiff, Bool.false_eq_true, reduceCtorEq, Nat.reduceLT, Nat.reduceBEq, Int.reduceEq, h_right2, h0, h2, h3, hm, hge, List.length_map, decide_false])
      | (refine wpB_yes (fun h => ?_) (fun h => ?_) <;> simp only [h, go_sem, reduceIte, Nat.reduceEqDiff, Nat.reduceAdd, Nat.reduceSub, Nat.reduceMul, Nat.reduceLeDiff, Bool.false_eq_true, reduceCtorEq, Nat.reduceLT, Nat.reduceBEq, Int.reduceEq, h_right2, h0, h2, h3, hm, hge, List.length_map, decide_false])
      | (refine wpGD_not (fun h => ?_) (fun h => ?_) <;> simp only [h, go_sem, reduceIte, Nat.reduceEqDiff, Nat.reduceAdd, Nat.reduceSub, Nat.reduceMul, Nat.reduceLeDiff, Bool.false_eq_true, reduceCtorEq, Nat.reduceLT, Nat.reduceBEq, Int.reduceEq, h_right2, h0, h2, h3, hm, hge, List.length_map, decide_false])
      | (refine wpGD_yes (fun h => ?_) (fun h => ?_) <;> simp only [h, go_sem, reduceIte, Nat.reduceEqDiff, Nat.reduceAdd, Nat.reduceSub, Nat.reduceMul, Nat.reduceLeDiff, Bool.false_eq_true, reduceCtorEq, Nat.reduceLT, Nat.reduceBEq, Int.reduceEq, h_right2, h0, h2, h3, hm, hge, List.length_map, decide_false])
    refine wp_loop_keep [0, 2] [15002] (fun (κ : Nat) tm mem => κ ≤ 3 ∧ worstK 3 l = worstK κ l ∧ tm 4 = .dat (.int .i64 κ)) (fun κ => κ) 3 ⟨by omega, rfl, by simp [go_sem]⟩ ?_
    intro vs ms hvs hms
    simp only [go_sem, reduceIte, Nat.reduceEqDiff, Nat.reduceAdd, Nat.reduceSub, Nat.reduceMul, Nat.reduceLeDiff, Bool.false_eq_true, reduceCtorEq, Nat.reduceLT, Nat.reduceBEq, Int.reduceEq, h_right2, h0, h2, hm] at hvs hms
    subst hvs hms
    rintro κ tm mem hk hm ⟨hκ, hw, h4⟩
    simp only [go_sem, reduceIte, Nat.reduceEqDiff, Nat.reduceAdd, Nat.reduceSub, Nat.reduceMul, Nat.reduceLeDiff, Bool.false_eq_true, reduceCtorEq, Nat.reduceLT, Nat.reduceBEq, Int.reduceEq, h_right2, List.cons.injEq] at hk hm
    obtain ⟨h0, h2⟩ := hk
    rcases κ with _ | κ
    · simp only [go_sem, reduceIte, Nat.reduceEqDiff, Nat.reduceAdd, Nat.reduceSub, Nat.reduceMul, Nat.reduceLeDiff, Bool.false_eq_true, reduceCtorEq, Nat.reduceLT, Nat.reduceBEq, Int.reduceEq, h_right2, h0, h2, h4, hm, Int.natCast_zero, decide_false, Int.cast_ofNat_Int, show ¬ ((0 : Int) > 0) by omega]
      repeat' first
        | (refine wpG_not (fun h => ?_) (fun h => ?_) <;> simp only [h, go_sem, reduceIte, Nat.reduceEqDiff, Nat.reduceAdd, Nat.reduceSub, Nat.reduceMul, Nat.reduceLeDiff, Bool.false_eq_true, reduceCtorEq, Nat.reduceLT, Nat.reduceBEq, Int.reduceEq, h_right2, h0, h2, h4, hm, Int.natCast_zero, decide_false, Int.cast_ofNat_Int, show ¬ ((0 : Int) > 0) by omega])
        | (refine wpG_yes (fun h => ?_) (fun h => ?_) <;> simp only [h, go_sem, reduceIte, Nat.reduceEqDiff, Nat.reduceAdd, Nat.reduceSub, Nat.reduceMul, Nat.reduceLeDiff, Bool.false_eq_true, reduceCtorEq, Nat.reduceLT, Nat.reduceBEq, Int.reduceEq, h_right2, h0, h2, h4, hm, Int.natCast_zero, decide_false, Int.cast_ofNat_Int, show ¬ ((0 : Int) > 0) by omega])
        | (refine wpB_not (fun h => ?_) (fun h => ?_) <;> simp only [h, go_sem, reduceIte, Nat.reduceEqDiff, Nat.reduceAdd, Nat.reduceSub, Nat.reduceMul, Nat.reduceLeDiff, Bool.false_eq_true, reduceCtorEq, Nat.reduceLT, Nat.reduceBEq, Int.reduceEq, h_right2, h0, h2, h4, hm, Int.natCast_zero, decide_false, Int.cast_ofNat_Int, show ¬ ((0 : Int) > 0) by omega])
        | (refine wpB_yes (fun h => ?_) (fun h => ?_) <;> simp only [h, go_sem, reduceIte, Nat.reduceEqDiff, Nat.reduceAdd, Nat.reduceSub, Nat.reduceMul, Nat.reduceLeDiff, Bool.false_eq_true, reduceCtorEq, Nat.reduceLT, Nat.reduceBEq, Int.reduceEq, h_right2, h0, h2, h4, hm, Int.natCast_zero, decide_false, Int.cast_ofNat_Int, show ¬ ((0 : Int) > 0) by omega])
        | (refine wpGD_not (fun h => ?_) (fun h => ?_) <;> simp only [h, go_sem, reduceIte, Nat.reduceEqDiff, Nat.reduceAdd, Nat.reduceSub, Nat.reduceMul, Nat.reduceLeDiff, Bool.false_eq_true, reduceCtorEq, Nat.reduceLT, Nat.reduceBEq, Int.reduceEq, h_right2, h0, h2, h4, hm, Int.natCast_zero, decide_false, Int.cast_ofNat_Int, show ¬ ((0 : Int) > 0) by omega])
        | (refine wpGD_yes (fun h => ?_) (fun h => ?_) <;> simp only [h, go_sem, reduceIte, Nat.reduceEqDiff, Nat.reduceAdd, Nat.reduceSub, Nat.reduceMul, Nat.reduceLeDiff, Bool.false_eq_true, reduceCtorEq, Nat.reduceLT, Nat.reduceBEq, Int.reduceEq, h_right2, h0, h2, h4, hm, Int.natCast_zero, decide_false, Int.cast_ofNat_Int, show ¬ ((0 : Int) > 0) by omega])
      have e : worst2 l = worstK 0 l := by unfold worst2; rw [if_pos hall, hw]
      rw [e]
      rfl
    · simp only [go_sem, reduceIte, Nat.reduceEqDiff, Nat.reduceAdd, Nat.reduceSub, Nat.reduceMul, Nat.reduceLeDiff, Bool.false_eq_true, reduceCtorEq, Nat.reduceLT, Nat.reduceBEq, Int.reduceEq, h_right2, h0, h2, h4, hm, show ((κ + 1 : Nat) : Int) > 0 by omega, decide_true]
      repeat' first
        | (refine wpG_not (fun h => ?_) (fun h => ?_) <;> simp only [h, go_sem, reduceIte, Nat.reduceEqDiff, Nat.reduceAdd, Nat.reduceSub, Nat.reduceMul, Nat.reduceLeDiff, Bool.false_eq_true, reduceCtorEq, Nat.reduceLT, Nat.reduceBEq, Int.reduceEq, h_right2, h0, h2, h4, hm, show ((κ + 1 : Nat) : Int) > 0 by omega, decide_true])
        | (refine wpG_yes (fun h => ?_) (fun h => ?_) <;> simp only [h, go_sem, reduceIte, Nat.reduceEqDiff, Nat.reduceAdd, Nat.reduceSub, Nat.reduceMul, Nat.reduceLeDiff, Bool.false_eq_true, reduceCtorEq, Nat.reduceLT, Nat.reduceBEq, Int.reduceEq, h_right2, h0, h2, h4, hm, show ((κ + 1 : Nat) : Int) > 0 by omega, decide_true])
        | (refine wpB_not (fun h => ?_) (fun h => ?_) <;> simp only [h, go_sem, reduceIte, Nat.reduceEqDiff, Nat.reduceAdd, Nat.reduceSub, Nat.reduceMul, Nat.reduceLeDiff, Bool.false_eq_true, reduceCtorEq, Nat.reduceLT, Nat.reduceBEq, Int.reduceEq, h_right2, h0, h2, h4, hm, show ((κ + 1 : Nat) : Int) > 0 by omega, decide_true])
        | (refine wpB_yes (fun h => ?_) (fun h => ?_) <;> simp only [h, go_sem, reduceIte, Nat.reduceEqDiff, Nat.reduceAdd, Nat.reduceSub, Nat.reduceMul, Nat.reduceLeDiff, Bool.false_eq_true, reduceCtorEq, Nat.reduceLT, Nat.reduceBEq, Int.reduceEq, h_right2, h0, h2, h4, hm, show ((κ + 1 : Nat) : Int) > 0 by omega, decide_true])
        | (refine wpGD_not (fun h => ?_) (fun h => ?_) <;> simp only [h, go_sem, reduceIte, Nat.reduceEqDiff, Nat.reduceAdd, Nat.reduceSub, Nat.reduceMul, Nat.reduceLeDiff, Bool.false_eq_true, reduceCtorEq, Nat.reduceLT, Nat.reduceBEq, Int.reduceEq, h_right2, h0, h2, h4, hm, show ((κ + 1 : Nat) : Int) > 0 by omega, decide_true])
        | (refine wpGD_yes (fun h => ?_) (fun h => ?_) <;> simp only [h, go_sem, reduceIte, Nat.reduceEqDiff, Nat.reduceAdd, Nat.reduceSub, Nat.reduceMul, Nat.reduceLeDiff, Bool.false_eq_true, reduceCtorEq, Nat.reduceLT, Nat.reduceBEq, Int.reduceEq, h_right2, h0, h2, h4, hm, show ((κ + 1 : Nat) : Int) > 0 by omega, decide_true])
      refine wp_loop_keep [0, 2, 4] [15002] (fun (j, s) tm mem => 0 ≤ j ∧ j ≤ (l.length : Int) ∧ sinceGo (κ + 1 : Nat) (-1) l = sinceGo (κ + 1 : Nat) s (l.drop j.toNat) ∧ tm 5 = .dat (.int .i64 s) ∧ tm 6 = .dat (.int .i64 j)) (fun (j, _) => (l.length - j).toNat) (0, -1) ⟨by omega, by omega, by simp, by simp [go_sem], by simp [go_sem]⟩ ?_
      intro vs ms hvs hms
      simp only [go_sem, reduceIte, Nat.reduceEqDiff, Nat.reduceAdd, Nat.reduceSub, Nat.reduceMul, Nat.reduceLeDiff, Bool.false_eq_true, reduceCtorEq, Nat.reduceLT, Nat.reduceBEq, Int.reduceEq, h_right2, h0, h2, h4, hm] at hvs hms
      subst hvs hms
      rintro ⟨j, s⟩ tm mem hk hm ⟨hj0, hj, hg, h5, h6⟩
      simp only [go_sem, reduceIte, Nat.reduceEqDiff, Nat.reduceAdd, Nat.reduceSub, Nat.reduceMul, Nat.reduceLeDiff, Bool.false_eq_true, reduceCtorEq, Nat.reduceLT, Nat.reduceBEq, Int.reduceEq, h_right2, List.cons.injEq] at hk hm
      obtain ⟨h0, h2, h4⟩ := hk
      rcases Decidable.em (j < l.length) with hlt | hge
      · obtain ⟨⟨a, n⟩, hx, hd, -⟩ := at_list l j hj0 hlt
        simp only [go_sem, reduceIte, Nat.reduceEqDiff, Nat.reduceAdd, Nat.reduceSub, Nat.reduceMul, Nat.reduceLeDiff, Bool.false_eq_true, reduceCtorEq, Nat.reduceLT, Nat.reduceBEq, Int.reduceEq, h_right2, h0, h2, h4, h5, h6, hm, hx, hlt, hj0, List.length_map, List.getElem?_map, decide_true, brL, List.cons.injEq]
        repeat' first
          | (refine wpG_not (fun h => ?_) (fun h => ?_) <;> simp only [h, go_sem, reduceIte, Nat.reduceEqDiff, Nat.reduceAdd, Nat.reduceSub, Nat.reduceMul, Nat.reduceLeDiff, Bool.false_eq_true, reduceCtorEq, Nat.reduceLT, Nat.reduceBEq, Int.reduceEq, h_right2, h0, h2, h4, h5, h6, hm, hx, hlt, hj0, List.length_map, List.getElem?_map, decide_true, brL, List.cons.injEq])
          | (refine wpG_yes (fun h => ?_) (fun h => ?_) <;> simp only [h, go_sem, reduceIte, Nat.reduceEqDiff, Nat.reduceAdd, Nat.reduceSub, Nat.reduceMul, Nat.reduceLeDiff, Bool.false_eq_true, reduceCtorEq, Nat.reduceLT, Nat.reduceBEq, Int.reduceEq, h_right2, h0, h2, h4, h5, h6, hm, hx, hlt, hj0, List.length_map, List.getElem?_map, decide_true, brL, List.cons.injEq])
          | (refine wpB_not (fun h => ?_) (fun h => ?_) <;> simp only [h, go_sem, reduceIte, Nat.reduceEqDiff, Nat.reduceAdd, Nat.reduceSub, Nat.reduceMul, Nat.reduceLeDiff, Bool.false_eq_true, reduceCtorEq, Nat.reduceLT, Nat.reduceBEq, Int.reduceEq, h_right2, h0, h2, h4, h5, h6, hm, hx, hlt, hj0, List.length_map, List.getElem?_map, decide_true, brL, List.cons.injEq])
          | (refine wpB_yes (fun h => ?_) (fun h => ?_) <;> simp only [h, go_sem, reduceIte, Nat.reduceEqDiff, Nat.reduceAdd, Nat.reduceSub, Nat.reduceMul, Nat.reduceLeDiff, Bool.false_eq_true, reduceCtorEq, Nat.reduceLT, Nat.reduceBEq, Int.reduceEq, h_right2, h0, h2, h4, h5, h6, hm, hx, hlt, hj0, List.length_map, List.getElem?_map, decide_true, brL, List.cons.injEq])
          | (refine wpGD_not (fun h => ?_) (fun h => ?_) <;> simp only [h, go_sem, reduceIte, Nat.reduceEqDiff, Nat.reduceAdd, Nat.reduceSub, Nat.reduceMul, Nat.reduceLeDiff, Bool.false_eq_true, reduceCtorEq, Nat.reduceLT, Nat.reduceBEq, Int.reduceEq, h_right2, h0, h2, h4, h5, h6, hm, hx, hlt, hj0, List.length_map, List.getElem?_map, decide_true, brL, List.cons.injEq])
          | (refine wpGD_yes (fun h => ?_) (fun h => ?_) <;> simp only [h, go_sem, reduceIte, Nat.reduceEqDiff, Nat.reduceAdd, Nat.reduceSub, Nat.reduceMul, Nat.reduceLeDiff, Bool.false_eq_true, reduceCtorEq, Nat.reduceLT, Nat.reduceBEq, Int.reduceEq, h_right2, h0, h2, h4, h5, h6, hm, hx, hlt, hj0, List.length_map, List.getElem?_map, decide_true, brL, List.cons.injEq])
        all_goals first
          | exact ⟨(j + 1, s), by dsimp only; omega, by dsimp only; omega, by dsimp only; omega, by rw [hg, hd]; simp only [sinceGo, *, reduceIte, Bool.not_true, Bool.not_false, Bool.or_true, Bool.true_or, Bool.or_false, Bool.false_or, Bool.and_true, Bool.true_and, Bool.and_false, Bool.false_and, Bool.false_eq_true, beq_self_eq_true, bne], rfl, by rw [wrap64 _ (by omega) (by omega)]⟩
          | exact ⟨(j + 1, n), by dsimp only; omega, by dsimp only; omega, by dsimp only; omega, by rw [hg, hd]; simp only [sinceGo, *, reduceIte, Bool.not_true, Bool.not_false, Bool.or_true, Bool.true_or, Bool.or_false, Bool.false_or, Bool.and_true, Bool.true_and, Bool.and_false, Bool.false_and, Bool.false_eq_true, beq_self_eq_true, bne], rfl, by rw [wrap64 _ (by omega) (by omega)]⟩
          | trace_state
      · have he : l.drop j.toNat = [] := List.drop_eq_nil_of_le (by omega)
        rw [he] at hg
        simp only [sinceGo] at hg
        simp only [go_sem, reduceIte, Nat.reduceEqDiff, Nat.reduceAdd, Nat.reduceSub, Nat.reduceMul, Nat.reduceLeDiff, Bool.false_eq_true, reduceCtorEq, Nat.reduceLT, Nat.reduceBEq, Int.reduceEq, h_right2, h0, h2, h4, h5, h6, hm, hge, List.length_map, decide_false, List.cons.injEq]
        repeat' first
          | (refine wpG_not (fun h => ?_) (fun h => ?_) <;> simp only [h, go_sem, reduceIte, Nat.reduceEqDiff, Nat.reduceAdd, Nat.reduceSub, Nat.reduceMul, Nat.reduceLeDiff, Bool.false_eq_true, reduceCtorEq, Nat.reduceLT, Nat.reduceBEq, Int.reduceEq, h_right2, h0, h2, h4, h5, h6, hm, hge, List.length_map, decide_false, List.cons.injEq])
          | (refine wpG_yes (fun h => ?_) (fun h => ?_) <;> simp only [h, go_sem, reduceIte, Nat.reduceEqDiff, Nat.reduceAdd, Nat.reduceSub, Nat.reduceMul, Nat.reduceLeDiff, Bool.false_eq_true, reduceCtorEq, Nat.reduceLT, Nat.reduceBEq, Int.reduceEq, h_right2, h0, h2, h4, h5, h6, hm, hge, List.length_map, decide_false, List.cons.injEq])
          | (refine wpB_not (fun h => ?_) (fun h => ?_) <;> simp only [h, go_sem, reduceIte, Nat.reduceEqDiff, Nat.reduceAdd, Nat.reduceSub, Nat.reduceMul, Nat.reduceLeDiff, Bool.false_eq_true, reduceCtorEq, Nat.reduceLT, Nat.reduceBEq, Int.reduceEq, h_right2, h0, h2, h4, h5, h6, hm, hge, List.length_map, decide_false, List.cons.injEq])
          | (refine wpB_yes (fun h => ?_) (fun h => ?_) <;> simp only [h, go_sem, reduceIte, Nat.reduceEqDiff, Nat.reduceAdd, Nat.reduceSub, Nat.reduceMul, Nat.reduceLeDiff, Bool.false_eq_true, reduceCtorEq, Nat.reduceLT, Nat.reduceBEq, Int.reduceEq, h_right2, h0, h2, h4, h5, h6, hm, hge, List.length_map, decide_false, List.cons.injEq])
          | (refine wpGD_not (fun h => ?_) (fun h => ?_) <;> simp only [h, go_sem, reduceIte, Nat.reduceEqDiff, Nat.reduceAdd, Nat.reduceSub, Nat.reduceMul, Nat.reduceLeDiff, Bool.false_eq_true, reduceCtorEq, Nat.reduceLT, Nat.reduceBEq, Int.reduceEq, h_right2, h0, h2, h4, h5, h6, hm, hge, List.length_map, decide_false, List.cons.injEq])
          | (refine wpGD_yes (fun h => ?_) (fun h => ?_) <;> simp only [h, go_sem, reduceIte, Nat.reduceEqDiff, Nat.reduceAdd, Nat.reduceSub, Nat.reduceMul, Nat.reduceLeDiff, Bool.false_eq_true, reduceCtorEq, Nat.reduceLT, Nat.reduceBEq, Int.reduceEq, h_right2, h0, h2, h4, h5, h6, hm, hge, List.length_map, decide_false, List.cons.injEq])
        · rename_i h
          have e : worst2 l = (((κ + 1 : Nat) : Int), s) := by unfold worst2; rw [if_pos hall, hw]; unfold worstK; rw [hg, if_pos h]
          rw [e]
          rfl
        · rename_i h
          refine ⟨κ, by omega, by omega, ?_, ?_⟩
          · rw [hw]; conv => lhs; unfold worstK
            rw [hg, h]; rfl
          · rw [wrap64 _ (by omega) (by omega)]; congr 2; omega
end Go.Mini
