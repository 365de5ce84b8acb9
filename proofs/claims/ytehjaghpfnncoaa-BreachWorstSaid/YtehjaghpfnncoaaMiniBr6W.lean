/- The laws of the breaches, walked. -/
import Derived.Test.YtehjaghpfnncoaaMiniBr6
set_option linter.unusedSimpArgs false
set_option linter.unusedVariables false
namespace Go.Mini
open Go
set_option maxRecDepth 10000
set_option maxHeartbeats 2000000

theorem even_br (l : List Br) : ((l.map brL).all fun e => e.length == 2) = true := by
  rw [List.all_eq_true]
  intro e he
  rw [List.mem_map] at he
  obtain ⟨b, -, rfl⟩ := he
  rfl

theorem allR_append {a b : List Br} : allR (a ++ b) ↔ allR a ∧ allR b :=
  ⟨fun h => ⟨fun x hx => h x (List.mem_append.2 (.inl hx)), fun x hx => h x (List.mem_append.2 (.inr hx))⟩, fun h x hx => (List.mem_append.1 hx).elim (h.1 x) (h.2 x)⟩

noncomputable def F_Worst : List Data → Option PRes := FF (α := (List Br) × (List Br)) (fun (l, more) => ([.sl (l.map brL), .sl (more.map brL)] : List Data)) (fun (l, more) => some (.same (.bool true)))
theorem F_Worst_inj : ∀ a b : (List Br) × (List Br), (fun (l, more) => ([.sl (l.map brL), .sl (more.map brL)] : List Data)) a = (fun (l, more) => ([.sl (l.map brL), .sl (more.map brL)] : List Data)) b → a = b := by
    rintro ⟨l1, more1⟩ ⟨l2, more2⟩ h
    simp only [List.cons.injEq, Data.sl.injEq] at h; exact Prod.ext (map_inj brL_inj _ _ h.1) (map_inj brL_inj _ _ h.2.1)
@[go_sem] theorem F_Worst_eq (l : List Br) (more : List Br) : F_Worst [.sl (l.map brL), .sl (more.map brL)] = some (.same (.bool true)) := FF_eq F_Worst_inj (l, more)
theorem w_Worst (T : Tab) (h_small : T id_law27_small = mkE F_small) (h_right : T id_breach_Right = mkE F_right) (h_worst : T id_breach_Worst = mkE F_worst) (l : List Br) (more : List Br) :
    wp T mf_law27_BreachWorst.body (endS mf_law27_BreachWorst.res (.same (.bool true))) ⟨initTm [.dat (.sl (l.map brL)), .dat (.sl (more.map brL))], emp⟩ := by
  refine wp_start ?_
  simp only [mf_law27_BreachWorst]
  by_cases hl : l.length > 40
  · have hd : decide ((l.length : Int) > 40) = true := decide_eq_true (by omega)
    simp only [go_sem, reduceIte, Nat.reduceEqDiff, Nat.reduceAdd, Nat.reduceSub, Nat.reduceMul, Nat.reduceLeDiff, Bool.false_eq_true, reduceCtorEq, Nat.reduceLT, Nat.reduceBEq, Int.reduceEq, h_small, h_right, h_worst, hd, List.length_map]
    repeat' first
      | (refine wpG_not (fun h => ?_) (fun h => ?_) <;> simp only [h, go_sem, reduceIte, Nat.reduceEqDiff, Nat.reduceAdd, Nat.reduceSub, Nat.reduceMul, Nat.reduceLeDiff, Bool.false_eq_true, reduceCtorEq, Nat.reduceLT, Nat.reduceBEq, Int.reduceEq, h_small, h_right, h_worst, hd, List.length_map])
      | (refine wpG_yes (fun h => ?_) (fun h => ?_) <;> simp only [h, go_sem, reduceIte, Nat.reduceEqDiff, Nat.reduceAdd, Nat.reduceSub, Nat.reduceMul, Nat.reduceLeDiff, Bool.false_eq_true, reduceCtorEq, Nat.reduceLT, Nat.reduceBEq, Int.reduceEq, h_small, h_right, h_worst, hd, List.length_map])
      | (refine wpB_not (fun h => ?_) (fun h => ?_) <;> simp only [h, go_sem, reduceIte, Nat.reduceEqDiff, Nat.reduceAdd, Nat.reduceSub, Nat.reduceMul, Nat.reduceLeDiff, Bool.false_eq_true, reduceCtorEq, Nat.reduceLT, Nat.reduceBEq, Int.reduceEq, h_small, h_right, h_worst, hd, List.length_map])
      | (refine wpB_yes (fun h => ?_) (fun h => ?_) <;> simp only [h, go_sem, reduceIte, Nat.reduceEqDiff, Nat.reduceAdd, Nat.reduceSub, Nat.reduceMul, Nat.reduceLeDiff, Bool.false_eq_true, reduceCtorEq, Nat.reduceLT, Nat.reduceBEq, Int.reduceEq, h_small, h_right, h_worst, hd, List.length_map])
      | (refine wpGD_not (fun h => ?_) (fun h => ?_) <;> simp only [h, go_sem, reduceIte, Nat.reduceEqDiff, Nat.reduceAdd, Nat.reduceSub, Nat.reduceMul, Nat.reduceLeDiff, Bool.false_eq_true, reduceCtorEq, Nat.reduceLT, Nat.reduceBEq, Int.reduceEq, h_small, h_right, h_worst, hd, List.length_map])
      | (refine wpGD_yes (fun h => ?_) (fun h => ?_) <;> simp only [h, go_sem, reduceIte, Nat.reduceEqDiff, Nat.reduceAdd, Nat.reduceSub, Nat.reduceMul, Nat.reduceLeDiff, Bool.false_eq_true, reduceCtorEq, Nat.reduceLT, Nat.reduceBEq, Int.reduceEq, h_small, h_right, h_worst, hd, List.length_map])
  · have hd : decide ((l.length : Int) > 40) = false := decide_eq_false (by omega)
    by_cases hm : more.length > 40
    · have hd' : decide ((more.length : Int) > 40) = true := decide_eq_true (by omega)
      simp only [go_sem, reduceIte, Nat.reduceEqDiff, Nat.reduceAdd, Nat.reduceSub, Nat.reduceMul, Nat.reduceLeDiff, Bool.false_eq_true, reduceCtorEq, Nat.reduceLT, Nat.reduceBEq, Int.reduceEq, h_small, h_right, h_worst, hd, hd', List.length_map]
      repeat' first
        | (refine wpG_not (fun h => ?_) (fun h => ?_) <;> simp only [h, go_sem, reduceIte, Nat.reduceEqDiff, Nat.reduceAdd, Nat.reduceSub, Nat.reduceMul, Nat.reduceLeDiff, Bool.false_eq_true, reduceCtorEq, Nat.reduceLT, Nat.reduceBEq, Int.reduceEq, h_small, h_right, h_worst, hd, hd', List.length_map])
        | (refine wpG_yes (fun h => ?_) (fun h => ?_) <;> simp only [h, go_sem, reduceIte, Nat.reduceEqDiff, Nat.reduceAdd, Nat.reduceSub, Nat.reduceMul, Nat.reduceLeDiff, Bool.false_eq_true, reduceCtorEq, Nat.reduceLT, Nat.reduceBEq, Int.reduceEq, h_small, h_right, h_worst, hd, hd', List.length_map])
        | (refine wpB_not (fun h => ?_) (fun h => ?_) <;> simp only [h, go_sem, reduceIte, Nat.reduceEqDiff, Nat.reduceAdd, Nat.reduceSub, Nat.reduceMul, Nat.reduceLeDiff, Bool.false_eq_true, reduceCtorEq, Nat.reduceLT, Nat.reduceBEq, Int.reduceEq, h_small, h_right, h_worst, hd, hd', List.length_map])
        | (refine wpB_yes (fun h => ?_) (fun h => ?_) <;> simp only [h, go_sem, reduceIte, Nat.reduceEqDiff, Nat.reduceAdd, Nat.reduceSub, Nat.reduceMul, Nat.reduceLeDiff, Bool.false_eq_true, reduceCtorEq, Nat.reduceLT, Nat.reduceBEq, Int.reduceEq, h_small, h_right, h_worst, hd, hd', List.length_map])
        | (refine wpGD_not (fun h => ?_) (fun h => ?_) <;> simp only [h, go_sem, reduceIte, Nat.reduceEqDiff, Nat.reduceAdd, Nat.reduceSub, Nat.reduceMul, Nat.reduceLeDiff, Bool.false_eq_true, reduceCtorEq, Nat.reduceLT, Nat.reduceBEq, Int.reduceEq, h_small, h_right, h_worst, hd, hd', List.length_map])
        | (refine wpGD_yes (fun h => ?_) (fun h => ?_) <;> simp only [h, go_sem, reduceIte, Nat.reduceEqDiff, Nat.reduceAdd, Nat.reduceSub, Nat.reduceMul, Nat.reduceLeDiff, Bool.false_eq_true, reduceCtorEq, Nat.reduceLT, Nat.reduceBEq, Int.reduceEq, h_small, h_right, h_worst, hd, hd', List.length_map])
    · have hd' : decide ((more.length : Int) > 40) = false := decide_eq_false (by omega)
      have ap1 : appC 30021 0 2 0 16 more.length ((more.map brL).flatten.map .dat) (some (0, [])) = some (.ref 30021 1 2 0 more.length, some (30021, 1, rowE brL more)) := by
        have := app_rows brL_len brL_one 30021 0 16 [] more (by simp; omega) (by simp; omega)
        simpa [rowE] using this
      have ap2 : appC 30021 1 2 more.length 16 l.length ((l.map brL).flatten.map .dat) (some (1, rowE brL more)) = some (.ref 30021 2 2 0 (more ++ l).length, some (30021, 2, rowE brL (more ++ l))) := by
        have := app_rows brL_len brL_one 30021 1 16 more l (by omega) (by omega)
        simpa [rowE] using this
      have hml : (more ++ l).length ≤ 80 := by simp; omega
      have hw1 : l.length ≤ 100000 := by omega
      have hw2 : more.length ≤ 100000 := by omega
      have hw3 := F_worst_eq (more ++ l) (by simp; omega)
      have hw4 := F_worst_eq [worstGo (0, 0) l, worstGo (0, 0) more] (by simp)
      simp only [List.map_cons, List.map_nil, brL] at hw4
      simp only [go_sem, reduceIte, Nat.reduceEqDiff, Nat.reduceAdd, Nat.reduceSub, Nat.reduceMul, Nat.reduceLeDiff, Bool.false_eq_true, reduceCtorEq, Nat.reduceLT, Nat.reduceBEq, Int.reduceEq, h_small, h_right, h_worst, hd, hd', ap1, ap2, even_br, wpFr2_row brL_len, List.length_map]
      refine wp_loop_keep [0, 1, 5, 6] [] (fun i tm mem => 0 ≤ i ∧ i ≤ ((more ++ l).length : Int) ∧ (∀ b ∈ (more ++ l).take i.toNat, rightB b.1 b.2 = true) ∧ tm 7 = .dat (.int .i64 i)) (fun i => ((more ++ l).length - i).toNat) 0 (by refine ⟨by omega, by omega, by simp, rfl⟩) ?_
      intro vs ms hvs hms
      simp only [go_sem, reduceIte, Nat.reduceEqDiff, Nat.reduceAdd, Nat.reduceSub, Nat.reduceMul, Nat.reduceLeDiff, Bool.false_eq_true, reduceCtorEq, Nat.reduceLT, Nat.reduceBEq, Int.reduceEq, h_small, h_right, h_worst] at hvs hms
      subst hvs hms
      rintro i tm mem hk - ⟨hi0, hi, hr, h7⟩
      simp only [go_sem, reduceIte, Nat.reduceEqDiff, Nat.reduceAdd, Nat.reduceSub, Nat.reduceMul, Nat.reduceLeDiff, Bool.false_eq_true, reduceCtorEq, Nat.reduceLT, Nat.reduceBEq, Int.reduceEq, h_small, h_right, h_worst, List.cons.injEq] at hk
      obtain ⟨h0, h1, h5, h6⟩ := hk
      rcases Decidable.em (i < (more ++ l).length) with hlt | hge
      · obtain ⟨⟨s, n⟩, hx, -, ht⟩ := at_list (more ++ l) i hi0 hlt
        have hbr : ∀ x : Br, [Data.int .i64 x.1, Data.int .i64 x.2] = brL x := fun _ => rfl
        by_cases hrb : rightB s n = true
        · simp only [go_sem, reduceIte, Nat.reduceEqDiff, Nat.reduceAdd, Nat.reduceSub, Nat.reduceMul, Nat.reduceLeDiff, Bool.false_eq_true, reduceCtorEq, Nat.reduceLT, Nat.reduceBEq, Int.reduceEq, h_small, h_right, h_worst, h0, h1, h5, h6, h7, hx, hlt, hi0, hrb, List.length_map, List.getElem?_map, decide_true, brL, List.cons.injEq]
          repeat' first
            | (refine wpG_not (fun h => ?_) (fun h => ?_) <;> simp only [h, go_sem, reduceIte, Nat.reduceEqDiff, Nat.reduceAdd, Nat.reduceSub, Nat.reduceMul, Nat.reduceLeDiff, Bool.false_eq_true, reduceCtorEq, Nat.reduceLT, Nat.reduceBEq, Int.reduceEq, h_small, h_right, h_worst, h0, h1, h5, h6, h7, hx, hlt, hi0, hrb, List.length_map, List.getElem?_map, decide_true, brL, List.cons.injEq])
            | (refine wpG_yes (fun h => ?_) (fun h => ?_) <;> simp only [h, go_sem, reduceIte, Nat.reduceEqDiff, Nat.reduceAdd, Nat.reduceSub, Nat.reduceMul, Nat.reduceLeDiff, Bool.false_eq_true, reduceCtorEq, Nat.reduceLT, Nat.reduceBEq, Int.reduceEq, h_small, h_right, h_worst, h0, h1, h5, h6, h7, hx, hlt, hi0, hrb, List.length_map, List.getElem?_map, decide_true, brL, List.cons.injEq])
            | (refine wpB_not (fun h => ?_) (fun h => ?_) <;> simp only [h, go_sem, reduceIte, Nat.reduceEqDiff, Nat.reduceAdd, Nat.reduceSub, Nat.reduceMul, Nat.reduceLeDiff, Bool.false_eq_true, reduceCtorEq, Nat.reduceLT, Nat.reduceBEq, Int.reduceEq, h_small, h_right, h_worst, h0, h1, h5, h6, h7, hx, hlt, hi0, hrb, List.length_map, List.getElem?_map, decide_true, brL, List.cons.injEq])
            | (refine wpB_yes (fun h => ?_) (fun h => ?_) <;> simp only [h, go_sem, reduceIte, Nat.reduceEqDiff, Nat.reduceAdd, Nat.reduceSub, Nat.reduceMul, Nat.reduceLeDiff, Bool.false_eq_true, reduceCtorEq, Nat.reduceLT, Nat.reduceBEq, Int.reduceEq, h_small, h_right, h_worst, h0, h1, h5, h6, h7, hx, hlt, hi0, hrb, List.length_map, List.getElem?_map, decide_true, brL, List.cons.injEq])
            | (refine wpGD_not (fun h => ?_) (fun h => ?_) <;> simp only [h, go_sem, reduceIte, Nat.reduceEqDiff, Nat.reduceAdd, Nat.reduceSub, Nat.reduceMul, Nat.reduceLeDiff, Bool.false_eq_true, reduceCtorEq, Nat.reduceLT, Nat.reduceBEq, Int.reduceEq, h_small, h_right, h_worst, h0, h1, h5, h6, h7, hx, hlt, hi0, hrb, List.length_map, List.getElem?_map, decide_true, brL, List.cons.injEq])
            | (refine wpGD_yes (fun h => ?_) (fun h => ?_) <;> simp only [h, go_sem, reduceIte, Nat.reduceEqDiff, Nat.reduceAdd, Nat.reduceSub, Nat.reduceMul, Nat.reduceLeDiff, Bool.false_eq_true, reduceCtorEq, Nat.reduceLT, Nat.reduceBEq, Int.reduceEq, h_small, h_right, h_worst, h0, h1, h5, h6, h7, hx, hlt, hi0, hrb, List.length_map, List.getElem?_map, decide_true, brL, List.cons.injEq])
          refine ⟨i + 1, by omega, by omega, by omega, fun b hb => ?_, by rw [wrap64 _ (by omega) (by omega)]⟩
          rw [ht, List.mem_append, List.mem_singleton] at hb
          rcases hb with e | e
          · exact hr b e
          · rw [e]; exact hrb
        · have hne : worstGo (0, 0) (more ++ l) = (0, 0) := worstGo_wrong _ (fun h => hrb (h (s, n) (List.mem_of_getElem? hx))) _
          rw [hne] at hw3
          have hrf : rightB s n = false := by simpa using hrb
          have hg2 : ((more ++ l).map brL)[i.toNat]? = some [.int .i64 s, .int .i64 n] := by rw [List.getElem?_map, hx]; rfl
          simp only [go_sem, reduceIte, Nat.reduceEqDiff, Nat.reduceAdd, Nat.reduceSub, Nat.reduceMul, Nat.reduceLeDiff, Bool.false_eq_true, reduceCtorEq, Nat.reduceLT, Nat.reduceBEq, Int.reduceEq, h_small, h_right, h_worst, h0, h1, h5, h6, h7, hg2, hlt, hi0, hrf, hw3, List.length_map, decide_true, brL, beq_self_eq_true]
          repeat' first
            | (refine wpG_not (fun h => ?_) (fun h => ?_) <;> simp only [h, go_sem, reduceIte, Nat.reduceEqDiff, Nat.reduceAdd, Nat.reduceSub, Nat.reduceMul, Nat.reduceLeDiff, Bool.false_eq_true, reduceCtorEq, Nat.reduceLT, Nat.reduceBEq, Int.reduceEq, h_small, h_right, h_worst, h0, h1, h5, h6, h7, hg2, hlt, hi0, hrf, hw3, List.length_map, decide_true, brL, beq_self_eq_true])
            | (refine wpG_yes (fun h => ?_) (fun h => ?_) <;> simp only [h, go_sem, reduceIte, Nat.reduceEqDiff, Nat.reduceAdd, Nat.reduceSub, Nat.reduceMul, Nat.reduceLeDiff, Bool.false_eq_true, reduceCtorEq, Nat.reduceLT, Nat.reduceBEq, Int.reduceEq, h_small, h_right, h_worst, h0, h1, h5, h6, h7, hg2, hlt, hi0, hrf, hw3, List.length_map, decide_true, brL, beq_self_eq_true])
            | (refine wpB_not (fun h => ?_) (fun h => ?_) <;> simp only [h, go_sem, reduceIte, Nat.reduceEqDiff, Nat.reduceAdd, Nat.reduceSub, Nat.reduceMul, Nat.reduceLeDiff, Bool.false_eq_true, reduceCtorEq, Nat.reduceLT, Nat.reduceBEq, Int.reduceEq, h_small, h_right, h_worst, h0, h1, h5, h6, h7, hg2, hlt, hi0, hrf, hw3, List.length_map, decide_true, brL, beq_self_eq_true])
            | (refine wpB_yes (fun h => ?_) (fun h => ?_) <;> simp only [h, go_sem, reduceIte, Nat.reduceEqDiff, Nat.reduceAdd, Nat.reduceSub, Nat.reduceMul, Nat.reduceLeDiff, Bool.false_eq_true, reduceCtorEq, Nat.reduceLT, Nat.reduceBEq, Int.reduceEq, h_small, h_right, h_worst, h0, h1, h5, h6, h7, hg2, hlt, hi0, hrf, hw3, List.length_map, decide_true, brL, beq_self_eq_true])
            | (refine wpGD_not (fun h => ?_) (fun h => ?_) <;> simp only [h, go_sem, reduceIte, Nat.reduceEqDiff, Nat.reduceAdd, Nat.reduceSub, Nat.reduceMul, Nat.reduceLeDiff, Bool.false_eq_true, reduceCtorEq, Nat.reduceLT, Nat.reduceBEq, Int.reduceEq, h_small, h_right, h_worst, h0, h1, h5, h6, h7, hg2, hlt, hi0, hrf, hw3, List.length_map, decide_true, brL, beq_self_eq_true])
            | (refine wpGD_yes (fun h => ?_) (fun h => ?_) <;> simp only [h, go_sem, reduceIte, Nat.reduceEqDiff, Nat.reduceAdd, Nat.reduceSub, Nat.reduceMul, Nat.reduceLeDiff, Bool.false_eq_true, reduceCtorEq, Nat.reduceLT, Nat.reduceBEq, Int.reduceEq, h_small, h_right, h_worst, h0, h1, h5, h6, h7, hg2, hlt, hi0, hrf, hw3, List.length_map, decide_true, brL, beq_self_eq_true])
      · have hall : allR (more ++ l) := by
          intro b hb
          exact hr b (by rwa [List.take_of_length_le (by omega)])
        obtain ⟨hm', hl'⟩ := allR_append.1 hall
        rw [worst_two l more hl' hm'] at hw3
        obtain ⟨hin, hno⟩ := worst_is l hl'
        simp only [brL] at hw3
        generalize hwl : worstGo (0, 0) l = w at *
        obtain ⟨a, c⟩ := w
        simp only [go_sem, reduceIte, Nat.reduceEqDiff, Nat.reduceAdd, Nat.reduceSub, Nat.reduceMul, Nat.reduceLeDiff, Bool.false_eq_true, reduceCtorEq, Nat.reduceLT, Nat.reduceBEq, Int.reduceEq, h_small, h_right, h_worst, h0, h1, h5, h6, h7, hge, hw1, hwl, List.length_map, decide_false, brL]
        refine wp_loop_keep [0, 1, 5, 6, 8] [30008] (fun (j, inn) tm mem => 0 ≤ j ∧ j ≤ (l.length : Int) ∧ (inn = true ↔ (a, c) ∈ (0, 0) :: l.take j.toNat) ∧ tm 10 = .dat (.int .i64 j) ∧ tm 9 = .dat (.bool inn)) (fun (j, _) => (l.length - j).toNat) (0, a == 0 && c == 0)
          (by refine ⟨by omega, by omega, by simp, rfl, by simp [upd]⟩) ?_
        intro vs ms hvs hms
        simp only [go_sem, reduceIte, Nat.reduceEqDiff, Nat.reduceAdd, Nat.reduceSub, Nat.reduceMul, Nat.reduceLeDiff, Bool.false_eq_true, reduceCtorEq, Nat.reduceLT, Nat.reduceBEq, Int.reduceEq, h_small, h_right, h_worst, h0, h1, h5, h6] at hvs hms
        subst hvs hms
        rintro ⟨j, inn⟩ tm mem hk hm ⟨hj0, hj, hiff, h10, h9⟩
        simp only [go_sem, reduceIte, Nat.reduceEqDiff, Nat.reduceAdd, Nat.reduceSub, Nat.reduceMul, Nat.reduceLeDiff, Bool.false_eq_true, reduceCtorEq, Nat.reduceLT, Nat.reduceBEq, Int.reduceEq, h_small, h_right, h_worst, List.cons.injEq] at hk hm
        obtain ⟨h0, h1, h5, h6, h8⟩ := hk
        rcases Decidable.em (j < l.length) with hlt | hge'
        · obtain ⟨⟨s, n⟩, hx, -, ht⟩ := at_list l j hj0 hlt
          have hnot := hno (s, n) (List.mem_cons_of_mem _ (List.mem_of_getElem? hx))
          unfold ltB at hnot
          dsimp only at hnot
          have hmem : (a, c) ∈ (0, 0) :: l.take (j + 1).toNat ↔ inn = true ∨ (s = a ∧ n = c) := by
            rw [ht, hiff]
            simp only [List.mem_cons, List.mem_append, List.not_mem_nil, or_false, Prod.mk.injEq]
            constructor
            · rintro (h | h | ⟨h1, h2⟩)
              · exact .inl (.inl h)
              · exact .inl (.inr h)
              · exact .inr ⟨h1.symm, h2.symm⟩
            · rintro ((h | h) | ⟨h1, h2⟩)
              · exact .inl h
              · exact .inr (.inl h)
              · exact .inr (.inr ⟨h1.symm, h2.symm⟩)
          simp only [go_sem, reduceIte, Nat.reduceEqDiff, Nat.reduceAdd, Nat.reduceSub, Nat.reduceMul, Nat.reduceLeDiff, Bool.false_eq_true, reduceCtorEq, Nat.reduceLT, Nat.reduceBEq, Int.reduceEq, h_small, h_right, h_worst, h0, h1, h5, h6, h8, h9, h10, hm, hx, hlt, hj0, List.length_map, List.getElem?_map, decide_true, brL, List.cons.injEq, pickM_bool]
          repeat' first
            | (refine wpG_not (fun h => ?_) (fun h => ?_) <;> simp only [h, go_sem, reduceIte, Nat.reduceEqDiff, Nat.reduceAdd, Nat.reduceSub, Nat.reduceMul, Nat.reduceLeDiff, Bool.false_eq_true, reduceCtorEq, Nat.reduceLT, Nat.reduceBEq, Int.reduceEq, h_small, h_right, h_worst, h0, h1, h5, h6, h8, h9, h10, hm, hx, hlt, hj0, List.length_map, List.getElem?_map, decide_true, brL, List.cons.injEq, pickM_bool])
            | (refine wpG_yes (fun h => ?_) (fun h => ?_) <;> simp only [h, go_sem, reduceIte, Nat.reduceEqDiff, Nat.reduceAdd, Nat.reduceSub, Nat.reduceMul, Nat.reduceLeDiff, Bool.false_eq_true, reduceCtorEq, Nat.reduceLT, Nat.reduceBEq, Int.reduceEq, h_small, h_right, h_worst, h0, h1, h5, h6, h8, h9, h10, hm, hx, hlt, hj0, List.length_map, List.getElem?_map, decide_true, brL, List.cons.injEq, pickM_bool])
            | (refine wpB_not (fun h => ?_) (fun h => ?_) <;> simp only [h, go_sem, reduceIte, Nat.reduceEqDiff, Nat.reduceAdd, Nat.reduceSub, Nat.reduceMul, Nat.reduceLeDiff, Bool.false_eq_true, reduceCtorEq, Nat.reduceLT, Nat.reduceBEq, Int.reduceEq, h_small, h_right, h_worst, h0, h1, h5, h6, h8, h9, h10, hm, hx, hlt, hj0, List.length_map, List.getElem?_map, decide_true, brL, List.cons.injEq, pickM_bool])
            | (refine wpB_yes (fun h => ?_) (fun h => ?_) <;> simp only [h, go_sem, reduceIte, Nat.reduceEqDiff, Nat.reduceAdd, Nat.reduceSub, Nat.reduceMul, Nat.reduceLeDiff, Bool.false_eq_true, reduceCtorEq, Nat.reduceLT, Nat.reduceBEq, Int.reduceEq, h_small, h_right, h_worst, h0, h1, h5, h6, h8, h9, h10, hm, hx, hlt, hj0, List.length_map, List.getElem?_map, decide_true, brL, List.cons.injEq, pickM_bool])
            | (refine wpGD_not (fun h => ?_) (fun h => ?_) <;> simp only [h, go_sem, reduceIte, Nat.reduceEqDiff, Nat.reduceAdd, Nat.reduceSub, Nat.reduceMul, Nat.reduceLeDiff, Bool.false_eq_true, reduceCtorEq, Nat.reduceLT, Nat.reduceBEq, Int.reduceEq, h_small, h_right, h_worst, h0, h1, h5, h6, h8, h9, h10, hm, hx, hlt, hj0, List.length_map, List.getElem?_map, decide_true, brL, List.cons.injEq, pickM_bool])
            | (refine wpGD_yes (fun h => ?_) (fun h => ?_) <;> simp only [h, go_sem, reduceIte, Nat.reduceEqDiff, Nat.reduceAdd, Nat.reduceSub, Nat.reduceMul, Nat.reduceLeDiff, Bool.false_eq_true, reduceCtorEq, Nat.reduceLT, Nat.reduceBEq, Int.reduceEq, h_small, h_right, h_worst, h0, h1, h5, h6, h8, h9, h10, hm, hx, hlt, hj0, List.length_map, List.getElem?_map, decide_true, brL, List.cons.injEq, pickM_bool])
          all_goals first
            | (exfalso; clear hmem hiff; (simp only [Option.some.injEq, Data.bool.injEq, Data.int.injEq, true_and, decide_eq_true_eq, decide_eq_false_iff_not, Bool.false_eq_true, beq_iff_eq, beq_eq_false_iff_ne, ne_eq] at * <;> omega))
            | exact ⟨(j + 1, inn || (s == a && n == c)), by dsimp only; omega, by dsimp only; omega, by dsimp only; omega, by dsimp only; rw [hmem]; simp, by rw [wrap64 _ (by omega) (by omega)], by congr 2; simp only [Bool.not_not, *, reduceIte, Bool.not_true, Bool.not_false, Bool.or_true, Bool.true_or, Bool.or_false, Bool.false_or, Bool.and_true, Bool.true_and, Bool.and_false, Bool.false_and, Bool.false_eq_true, beq_self_eq_true, bne]⟩
        · simp only [go_sem, reduceIte, Nat.reduceEqDiff, Nat.reduceAdd, Nat.reduceSub, Nat.reduceMul, Nat.reduceLeDiff, Bool.false_eq_true, reduceCtorEq, Nat.reduceLT, Nat.reduceBEq, Int.reduceEq, h_small, h_right, h_worst, h0, h1, h5, h6, h8, h9, h10, hm, hge', hw1, hw2, hw3, hw4, hwl, List.length_map, decide_false, brL, beq_self_eq_true]
          repeat' first
            | (refine wpG_not (fun h => ?_) (fun h => ?_) <;> simp only [h, go_sem, reduceIte, Nat.reduceEqDiff, Nat.reduceAdd, Nat.reduceSub, Nat.reduceMul, Nat.reduceLeDiff, Bool.false_eq_true, reduceCtorEq, Nat.reduceLT, Nat.reduceBEq, Int.reduceEq, h_small, h_right, h_worst, h0, h1, h5, h6, h8, h9, h10, hm, hge', hw1, hw2, hw3, hw4, hwl, List.length_map, decide_false, brL, beq_self_eq_true])
            | (refine wpG_yes (fun h => ?_) (fun h => ?_) <;> simp only [h, go_sem, reduceIte, Nat.reduceEqDiff, Nat.reduceAdd, Nat.reduceSub, Nat.reduceMul, Nat.reduceLeDiff, Bool.false_eq_true, reduceCtorEq, Nat.reduceLT, Nat.reduceBEq, Int.reduceEq, h_small, h_right, h_worst, h0, h1, h5, h6, h8, h9, h10, hm, hge', hw1, hw2, hw3, hw4, hwl, List.length_map, decide_false, brL, beq_self_eq_true])
            | (refine wpB_not (fun h => ?_) (fun h => ?_) <;> simp only [h, go_sem, reduceIte, Nat.reduceEqDiff, Nat.reduceAdd, Nat.reduceSub, Nat.reduceMul, Nat.reduceLeDiff, Bool.false_eq_true, reduceCtorEq, Nat.reduceLT, Nat.reduceBEq, Int.reduceEq, h_small, h_right, h_worst, h0, h1, h5, h6, h8, h9, h10, hm, hge', hw1, hw2, hw3, hw4, hwl, List.length_map, decide_false, brL, beq_self_eq_true])
            | (refine wpB_yes (fun h => ?_) (fun h => ?_) <;> simp only [h, go_sem, reduceIte, Nat.reduceEqDiff, Nat.reduceAdd, Nat.reduceSub, Nat.reduceMul, Nat.reduceLeDiff, Bool.false_eq_true, reduceCtorEq, Nat.reduceLT, Nat.reduceBEq, Int.reduceEq, h_small, h_right, h_worst, h0, h1, h5, h6, h8, h9, h10, hm, hge', hw1, hw2, hw3, hw4, hwl, List.length_map, decide_false, brL, beq_self_eq_true])
            | (refine wpGD_not (fun h => ?_) (fun h => ?_) <;> simp only [h, go_sem, reduceIte, Nat.reduceEqDiff, Nat.reduceAdd, Nat.reduceSub, Nat.reduceMul, Nat.reduceLeDiff, Bool.false_eq_true, reduceCtorEq, Nat.reduceLT, Nat.reduceBEq, Int.reduceEq, h_small, h_right, h_worst, h0, h1, h5, h6, h8, h9, h10, hm, hge', hw1, hw2, hw3, hw4, hwl, List.length_map, decide_false, brL, beq_self_eq_true])
            | (refine wpGD_yes (fun h => ?_) (fun h => ?_) <;> simp only [h, go_sem, reduceIte, Nat.reduceEqDiff, Nat.reduceAdd, Nat.reduceSub, Nat.reduceMul, Nat.reduceLeDiff, Bool.false_eq_true, reduceCtorEq, Nat.reduceLT, Nat.reduceBEq, Int.reduceEq, h_small, h_right, h_worst, h0, h1, h5, h6, h8, h9, h10, hm, hge', hw1, hw2, hw3, hw4, hwl, List.length_map, decide_false, brL, beq_self_eq_true])
          rw [List.take_of_length_le (by omega)] at hiff
          rw [hiff.2 hin] at h
          cases h

end Go.Mini
