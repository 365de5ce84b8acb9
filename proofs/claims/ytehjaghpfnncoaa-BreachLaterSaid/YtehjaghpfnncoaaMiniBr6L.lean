/- The laws of the breaches, walked. -/
import Derived.Test.YtehjaghpfnncoaaMiniBr6
set_option linter.unusedSimpArgs false
set_option linter.unusedVariables false
namespace Go.Mini
open Go
set_option maxRecDepth 10000
set_option maxHeartbeats 2000000

/-- The better news, day by day. -/
def better (n o : Int) : Int := if decide (orderF o > orderF n) = true then o else n
def bestL : List Int → List Int → List Int
  | n :: r, o :: s => better n o :: bestL r s
  | _, _ => []
theorem best_le : ∀ (l o : List Int), l.length = o.length → LeL l (bestL l o) ∧ LeL o (bestL l o) := by
  intro l
  induction l with
  | nil => intro o h; cases o with
    | nil => exact ⟨.nil, .nil⟩
    | cons _ _ => simp at h
  | cons n r ih =>
    intro o h
    cases o with
    | nil => simp at h
    | cons x s =>
      obtain ⟨h1, h2⟩ := ih s (by simpa using h)
      have : orderF n ≤ orderF (better n x) ∧ orderF x ≤ orderF (better n x) := by
        unfold better
        split
        · rename_i h; simp at h; omega
        · rename_i h; simp at h; omega
      exact ⟨.cons this.1 h1, .cons this.2 h2⟩
theorem best_8 : ∀ (l o : List Int), news8 l → news8 o → news8 (bestL l o) := by
  intro l
  induction l with
  | nil => intro o _ _ x hx; simp [bestL] at hx
  | cons n r ih =>
    intro o h1 h2
    cases o with
    | nil => intro x hx; simp [bestL] at hx
    | cons y s =>
      intro x hx
      simp only [bestL, List.mem_cons] at hx
      rcases hx with e | e
      · subst e
        unfold better
        split
        · exact h2 y (by simp)
        · exact h1 n (by simp)
      · exact ih s (fun z hz => h1 z (by simp [hz])) (fun z hz => h2 z (by simp [hz])) x e

noncomputable def F_Later : List Data → Option PRes := FF (α := (List Int) × (List Int) × Int × Int) (fun (l, o, grace, longer) => ([.sl (l.map u8L), .sl (o.map u8L), .int .u8 grace, .int .u8 longer] : List Data)) (fun (l, o, grace, longer) => onlyIf (news8 l ∧ news8 o ∧ (0 ≤ grace ∧ grace ≤ 255) ∧ (0 ≤ longer ∧ longer ≤ 255)) (.same (.bool true)))
theorem F_Later_inj : ∀ a b : (List Int) × (List Int) × Int × Int, (fun (l, o, grace, longer) => ([.sl (l.map u8L), .sl (o.map u8L), .int .u8 grace, .int .u8 longer] : List Data)) a = (fun (l, o, grace, longer) => ([.sl (l.map u8L), .sl (o.map u8L), .int .u8 grace, .int .u8 longer] : List Data)) b → a = b := by
    rintro ⟨l1, o1, grace1, longer1⟩ ⟨l2, o2, grace2, longer2⟩ h
    simp only [List.cons.injEq, Data.sl.injEq, Data.int.injEq] at h; exact Prod.ext (map_inj u8L_inj _ _ h.1) (Prod.ext (map_inj u8L_inj _ _ h.2.1) (Prod.ext h.2.2.1.2 h.2.2.2.1.2))
@[go_sem] theorem F_Later_eq (l : List Int) (o : List Int) (grace : Int) (longer : Int) (hc : news8 l ∧ news8 o ∧ (0 ≤ grace ∧ grace ≤ 255) ∧ (0 ≤ longer ∧ longer ≤ 255)) : F_Later [.sl (l.map u8L), .sl (o.map u8L), .int .u8 grace, .int .u8 longer] = some (.same (.bool true)) := (FF_eq F_Later_inj (l, o, grace, longer)).trans (onlyIf_pos hc _)
theorem w_Later (T : Tab) (h_small : T id_law27_small = mkE F_small) (h_play : T id_law27_play = mkE F_play) (h_order : T id_law27_order = mkE F_order) (h_fallen : T id_law27_fallen = mkE F_fallen) (l : List Int) (o : List Int) (grace : Int) (longer : Int) (hc : news8 l ∧ news8 o ∧ (0 ≤ grace ∧ grace ≤ 255) ∧ (0 ≤ longer ∧ longer ≤ 255)) :
    wp T mf_law27_BreachLater.body (endS mf_law27_BreachLater.res (.same (.bool true))) ⟨initTm [.dat (.sl (l.map u8L)), .dat (.sl (o.map u8L)), .dat (.int .u8 grace), .dat (.int .u8 longer)], emp⟩ := by
  refine wp_start ?_
  simp only [mf_law27_BreachLater]
  obtain ⟨h8, ho8, hgr, hlo⟩ := hc
  rcases Nat.lt_or_ge 80 l.length with hl | hl
  · have hd : decide ((l.length : Int) > 80) = true := decide_eq_true (by omega)
    simp only [go_sem, reduceIte, Nat.reduceEqDiff, Nat.reduceAdd, Nat.reduceSub, Nat.reduceMul, Nat.reduceLeDiff, Bool.false_eq_true, reduceCtorEq, Nat.reduceLT, Nat.reduceBEq, Int.reduceEq, h_small, h_play, h_order, h_fallen, hd, List.length_map]
    repeat' first
      | (refine wpG_not (fun h => ?_) (fun h => ?_) <;> simp only [h, go_sem, reduceIte, Nat.reduceEqDiff, Nat.reduceAdd, Nat.reduceSub, Nat.reduceMul, Nat.reduceLeDiff, Bool.false_eq_true, reduceCtorEq, Nat.reduceLT, Nat.reduceBEq, Int.reduceEq, h_small, h_play, h_order, h_fallen, hd, List.length_map])
      | (refine wpG_yes (fun h => ?_) (fun h => ?_) <;> simp only [h, go_sem, reduceIte, Nat.reduceEqDiff, Nat.reduceAdd, Nat.reduceSub, Nat.reduceMul, Nat.reduceLeDiff, Bool.false_eq_true, reduceCtorEq, Nat.reduceLT, Nat.reduceBEq, Int.reduceEq, h_small, h_play, h_order, h_fallen, hd, List.length_map])
      | (refine wpB_not (fun h => ?_) (fun h => ?_) <;> simp only [h, go_sem, reduceIte, Nat.reduceEqDiff, Nat.reduceAdd, Nat.reduceSub, Nat.reduceMul, Nat.reduceLeDiff, Bool.false_eq_true, reduceCtorEq, Nat.reduceLT, Nat.reduceBEq, Int.reduceEq, h_small, h_play, h_order, h_fallen, hd, List.length_map])
      | (refine wpB_yes (fun h => ?_) (fun h => ?_) <;> simp only [h, go_sem, reduceIte, Nat.reduceEqDiff, Nat.reduceAdd, Nat.reduceSub, Nat.reduceMul, Nat.reduceLeDiff, Bool.false_eq_true, reduceCtorEq, Nat.reduceLT, Nat.reduceBEq, Int.reduceEq, h_small, h_play, h_order, h_fallen, hd, List.length_map])
      | (refine wpGD_not (fun h => ?_) (fun h => ?_) <;> simp only [h, go_sem, reduceIte, Nat.reduceEqDiff, Nat.reduceAdd, Nat.reduceSub, Nat.reduceMul, Nat.reduceLeDiff, Bool.false_eq_true, reduceCtorEq, Nat.reduceLT, Nat.reduceBEq, Int.reduceEq, h_small, h_play, h_order, h_fallen, hd, List.length_map])
      | (refine wpGD_yes (fun h => ?_) (fun h => ?_) <;> simp only [h, go_sem, reduceIte, Nat.reduceEqDiff, Nat.reduceAdd, Nat.reduceSub, Nat.reduceMul, Nat.reduceLeDiff, Bool.false_eq_true, reduceCtorEq, Nat.reduceLT, Nat.reduceBEq, Int.reduceEq, h_small, h_play, h_order, h_fallen, hd, List.length_map])
  · have hd : decide ((l.length : Int) > 80) = false := decide_eq_false (by omega)
    by_cases hlen : o.length = l.length
    · obtain ⟨g, hg, hg12⟩ := rem12 grace hgr
      obtain ⟨g', hg'⟩ : ∃ g' : Nat, (g' : Int) = g + longer := ⟨(g + longer).toNat, by omega⟩
      have hwl : IntKind.i64.wrap longer = longer := wrap64 _ (by omega) (by omega)
      have hwg : IntKind.i64.wrap (g + longer) = g' := by rw [wrap64 _ (by omega) (by omega), hg']
      have hblen : (bestL l o).length = l.length := (best_le l o hlen.symm).1.length.symm
      obtain ⟨a, a1, a2, -, a4⟩ := story 0 g l (by omega) (by omega) h8 (by omega)
      obtain ⟨b, b1, b2, -, b4⟩ := story 0 g' l (by omega) (by omega) h8 (by omega)
      obtain ⟨c, c1, c2, -, c4⟩ := story 0 g (bestL l o) (by omega) (by omega) (best_8 l o h8 ho8) (by omega)
      obtain ⟨d, d1, d2, -, d4⟩ := story 0 g o (by omega) (by omega) ho8 (by omega)
      have p1 : l.length ≤ 1000 ∧ (0 : Int) ≤ 0 ∧ (0 : Int) ≤ 100000 ∧ news8 l := ⟨by omega, by omega, by omega, h8⟩
      have p2 : o.length ≤ 1000 ∧ (0 : Int) ≤ 0 ∧ (0 : Int) ≤ 100000 ∧ news8 o := ⟨by omega, by omega, by omega, ho8⟩
      have p3 : (bestL l o).length ≤ 1000 ∧ (0 : Int) ≤ 0 ∧ (0 : Int) ≤ 100000 ∧ news8 (bestL l o) := ⟨by omega, by omega, by omega, best_8 l o h8 ho8⟩
      have q1 := F_play_eq l g 0 p1
      have q2 := F_play_eq l g' 0 p1
      have q3 := F_play_eq (bestL l o) g 0 p3
      have q4 := F_play_eq o g 0 p2
      have r1 := F_fallen_eq a (by omega)
      have r2 := F_fallen_eq b (by omega)
      have r3 := F_fallen_eq c (by omega)
      have r4 := F_fallen_eq d (by omega)
      rw [a1] at q1
      rw [b1] at q2
      rw [c1] at q3
      rw [d1] at q4
      rw [a4] at r1
      rw [b4] at r2
      rw [c4] at r3
      rw [d4] at r4
      clear p1 p2 p3 a1 a4 b1 b4 c1 c4 d1 d4
      have m1 := exp_mono (g := g) (g' := g') (by omega) (LeL.refl l) h8 h8 0 (by omega)
      have m2 := exp_mono (g := g) (g' := g) (by omega) (best_le l o hlen.symm).1 h8 (best_8 l o h8 ho8) 0 (by omega)
      have m3 := exp_mono (g := g) (g' := g) (by omega) (best_le l o hlen.symm).2 ho8 (best_8 l o h8 ho8) 0 (by omega)
      generalize expGo g 0 l = x at *
      generalize expGo g' 0 l = y at *
      generalize expGo g 0 (bestL l o) = z at *
      generalize expGo g 0 o = w at *
      simp only [go_sem, reduceIte, Nat.reduceEqDiff, Nat.reduceAdd, Nat.reduceSub, Nat.reduceMul, Nat.reduceLeDiff, Bool.false_eq_true, reduceCtorEq, Nat.reduceLT, Nat.reduceBEq, Int.reduceEq, h_small, h_play, h_order, h_fallen, hd, hg, hwl, hwg, q1, q2, playD, hlen, List.length_map, beq_self_eq_true]
      refine wp_loop_keep [0, 1, 9, 10, 11, 12, 13, 14] [] (fun (i, g, out) tm mem => 0 ≤ i ∧ i ≤ (l.length : Int) ∧ (out : List Int).length = i.toNat ∧ bestL l o = out ++ bestL (l.drop i.toNat) (o.drop i.toNat) ∧ tm 16 = .dat (.int .i64 i) ∧ tm 15 = .ref 28081 g 1 0 out.length ∧ mem 28081 = some (g, rowE u8L out))
        (fun (i, _) => (l.length - i).toNat) (0, 0, []) (by refine ⟨by omega, by omega, rfl, by simp, ?_, ?_, ?_⟩ <;> rfl) ?_
      intro vs ms hvs hms
      simp only [go_sem, reduceIte, Nat.reduceEqDiff, Nat.reduceAdd, Nat.reduceSub, Nat.reduceMul, Nat.reduceLeDiff, Bool.false_eq_true, reduceCtorEq, Nat.reduceLT, Nat.reduceBEq, Int.reduceEq, h_small, h_play, h_order, h_fallen] at hvs hms
      subst hvs hms
      rintro ⟨i, gn, out⟩ tm mem hk - ⟨hi0, hi, hol, hb, h16, h15, m28⟩
      simp only [go_sem, reduceIte, Nat.reduceEqDiff, Nat.reduceAdd, Nat.reduceSub, Nat.reduceMul, Nat.reduceLeDiff, Bool.false_eq_true, reduceCtorEq, Nat.reduceLT, Nat.reduceBEq, Int.reduceEq, h_small, h_play, h_order, h_fallen, List.cons.injEq] at hk
      obtain ⟨h0, h1, h9, h10, h11, h12, h13, h14⟩ := hk
      rcases Decidable.em (i < l.length) with hlt | hge
      · obtain ⟨n, hx, hdr, -⟩ := at_list l i hi0 hlt
        obtain ⟨v, hx', hdr', -⟩ := at_list o i hi0 (by omega)
        rw [hdr, hdr'] at hb
        have hap : ∀ a : Int, appC 28081 gn 1 out.length 1 1 [.dat (.int .u8 a)] (some (gn, rowE u8L out)) = _ := fun a => app_row u8L_len u8L_one 28081 gn 1 out a rfl (by omega) (by omega)
        simp only [go_sem, reduceIte, Nat.reduceEqDiff, Nat.reduceAdd, Nat.reduceSub, Nat.reduceMul, Nat.reduceLeDiff, Bool.false_eq_true, reduceCtorEq, Nat.reduceLT, Nat.reduceBEq, Int.reduceEq, h_small, h_play, h_order, h_fallen, h0, h1, h9, h10, h11, h12, h13, h14, h15, h16, m28, hx, hx', hlt, hi0, hap, List.length_map, List.getElem?_map, decide_true, u8L, List.cons.injEq]
        repeat' first
          | (refine wpG_not (fun h => ?_) (fun h => ?_) <;> simp only [h, go_sem, reduceIte, Nat.reduceEqDiff, Nat.reduceAdd, Nat.reduceSub, Nat.reduceMul, Nat.reduceLeDiff, Bool.false_eq_true, reduceCtorEq, Nat.reduceLT, Nat.reduceBEq, Int.reduceEq, h_small, h_play, h_order, h_fallen, h0, h1, h9, h10, h11, h12, h13, h14, h15, h16, m28, hx, hx', hlt, hi0, hap, List.length_map, List.getElem?_map, decide_true, u8L, List.cons.injEq])
          | (refine wpG_yes (fun h => ?_) (fun h => ?_) <;> simp only [h, go_sem, reduceIte, Nat.reduceEqDiff, Nat.reduceAdd, Nat.reduceSub, Nat.reduceMul, Nat.reduceLeDiff, Bool.false_eq_true, reduceCtorEq, Nat.reduceLT, Nat.reduceBEq, Int.reduceEq, h_small, h_play, h_order, h_fallen, h0, h1, h9, h10, h11, h12, h13, h14, h15, h16, m28, hx, hx', hlt, hi0, hap, List.length_map, List.getElem?_map, decide_true, u8L, List.cons.injEq])
          | (refine wpB_not (fun h => ?_) (fun h => ?_) <;> simp only [h, go_sem, reduceIte, Nat.reduceEqDiff, Nat.reduceAdd, Nat.reduceSub, Nat.reduceMul, Nat.reduceLeDiff, Bool.false_eq_true, reduceCtorEq, Nat.reduceLT, Nat.reduceBEq, Int.reduceEq, h_small, h_play, h_order, h_fallen, h0, h1, h9, h10, h11, h12, h13, h14, h15, h16, m28, hx, hx', hlt, hi0, hap, List.length_map, List.getElem?_map, decide_true, u8L, List.cons.injEq])
          | (refine wpB_yes (fun h => ?_) (fun h => ?_) <;> simp only [h, go_sem, reduceIte, Nat.reduceEqDiff, Nat.reduceAdd, Nat.reduceSub, Nat.reduceMul, Nat.reduceLeDiff, Bool.false_eq_true, reduceCtorEq, Nat.reduceLT, Nat.reduceBEq, Int.reduceEq, h_small, h_play, h_order, h_fallen, h0, h1, h9, h10, h11, h12, h13, h14, h15, h16, m28, hx, hx', hlt, hi0, hap, List.length_map, List.getElem?_map, decide_true, u8L, List.cons.injEq])
          | (refine wpGD_not (fun h => ?_) (fun h => ?_) <;> simp only [h, go_sem, reduceIte, Nat.reduceEqDiff, Nat.reduceAdd, Nat.reduceSub, Nat.reduceMul, Nat.reduceLeDiff, Bool.false_eq_true, reduceCtorEq, Nat.reduceLT, Nat.reduceBEq, Int.reduceEq, h_small, h_play, h_order, h_fallen, h0, h1, h9, h10, h11, h12, h13, h14, h15, h16, m28, hx, hx', hlt, hi0, hap, List.length_map, List.getElem?_map, decide_true, u8L, List.cons.injEq])
          | (refine wpGD_yes (fun h => ?_) (fun h => ?_) <;> simp only [h, go_sem, reduceIte, Nat.reduceEqDiff, Nat.reduceAdd, Nat.reduceSub, Nat.reduceMul, Nat.reduceLeDiff, Bool.false_eq_true, reduceCtorEq, Nat.reduceLT, Nat.reduceBEq, Int.reduceEq, h_small, h_play, h_order, h_fallen, h0, h1, h9, h10, h11, h12, h13, h14, h15, h16, m28, hx, hx', hlt, hi0, hap, List.length_map, List.getElem?_map, decide_true, u8L, List.cons.injEq])
        · refine ⟨(i + 1, gn + 1, out ++ [v]), by dsimp only; omega, by dsimp only; omega, by dsimp only; omega, by simp; omega, ?_, by rw [wrap64 _ (by omega) (by omega)], by simp, rfl⟩
          rw [hb]
          simp only [bestL, better]
          rw [if_pos h]
          simp
        · refine ⟨(i + 1, gn + 1, out ++ [n]), by dsimp only; omega, by dsimp only; omega, by dsimp only; omega, by simp; omega, ?_, by rw [wrap64 _ (by omega) (by omega)], by simp, rfl⟩
          rw [hb]
          simp only [bestL, better]
          rw [if_neg (by rw [h]; exact Bool.false_ne_true)]
          simp
      · have he : l.drop i.toNat = [] := List.drop_eq_nil_of_le (by omega)
        rw [he] at hb
        simp only [bestL, List.append_nil] at hb
        rw [hb] at q3
        simp only [go_sem, reduceIte, Nat.reduceEqDiff, Nat.reduceAdd, Nat.reduceSub, Nat.reduceMul, Nat.reduceLeDiff, Bool.false_eq_true, reduceCtorEq, Nat.reduceLT, Nat.reduceBEq, Int.reduceEq, h_small, h_play, h_order, h_fallen, h0, h1, h9, h10, h11, h12, h13, h14, h15, h16, m28, hge, q3, q4, r1, r2, r3, r4, wpFr2_row u8L_len, playD, List.length_map, decide_false]
        repeat' first
          | (refine wpG_not (fun h => ?_) (fun h => ?_) <;> simp only [h, go_sem, reduceIte, Nat.reduceEqDiff, Nat.reduceAdd, Nat.reduceSub, Nat.reduceMul, Nat.reduceLeDiff, Bool.false_eq_true, reduceCtorEq, Nat.reduceLT, Nat.reduceBEq, Int.reduceEq, h_small, h_play, h_order, h_fallen, h0, h1, h9, h10, h11, h12, h13, h14, h15, h16, m28, hge, q3, q4, r1, r2, r3, r4, wpFr2_row u8L_len, playD, List.length_map, decide_false])
          | (refine wpG_yes (fun h => ?_) (fun h => ?_) <;> simp only [h, go_sem, reduceIte, Nat.reduceEqDiff, Nat.reduceAdd, Nat.reduceSub, Nat.reduceMul, Nat.reduceLeDiff, Bool.false_eq_true, reduceCtorEq, Nat.reduceLT, Nat.reduceBEq, Int.reduceEq, h_small, h_play, h_order, h_fallen, h0, h1, h9, h10, h11, h12, h13, h14, h15, h16, m28, hge, q3, q4, r1, r2, r3, r4, wpFr2_row u8L_len, playD, List.length_map, decide_false])
          | (refine wpB_not (fun h => ?_) (fun h => ?_) <;> simp only [h, go_sem, reduceIte, Nat.reduceEqDiff, Nat.reduceAdd, Nat.reduceSub, Nat.reduceMul, Nat.reduceLeDiff, Bool.false_eq_true, reduceCtorEq, Nat.reduceLT, Nat.reduceBEq, Int.reduceEq, h_small, h_play, h_order, h_fallen, h0, h1, h9, h10, h11, h12, h13, h14, h15, h16, m28, hge, q3, q4, r1, r2, r3, r4, wpFr2_row u8L_len, playD, List.length_map, decide_false])
          | (refine wpB_yes (fun h => ?_) (fun h => ?_) <;> simp only [h, go_sem, reduceIte, Nat.reduceEqDiff, Nat.reduceAdd, Nat.reduceSub, Nat.reduceMul, Nat.reduceLeDiff, Bool.false_eq_true, reduceCtorEq, Nat.reduceLT, Nat.reduceBEq, Int.reduceEq, h_small, h_play, h_order, h_fallen, h0, h1, h9, h10, h11, h12, h13, h14, h15, h16, m28, hge, q3, q4, r1, r2, r3, r4, wpFr2_row u8L_len, playD, List.length_map, decide_false])
          | (refine wpGD_not (fun h => ?_) (fun h => ?_) <;> simp only [h, go_sem, reduceIte, Nat.reduceEqDiff, Nat.reduceAdd, Nat.reduceSub, Nat.reduceMul, Nat.reduceLeDiff, Bool.false_eq_true, reduceCtorEq, Nat.reduceLT, Nat.reduceBEq, Int.reduceEq, h_small, h_play, h_order, h_fallen, h0, h1, h9, h10, h11, h12, h13, h14, h15, h16, m28, hge, q3, q4, r1, r2, r3, r4, wpFr2_row u8L_len, playD, List.length_map, decide_false])
          | (refine wpGD_yes (fun h => ?_) (fun h => ?_) <;> simp only [h, go_sem, reduceIte, Nat.reduceEqDiff, Nat.reduceAdd, Nat.reduceSub, Nat.reduceMul, Nat.reduceLeDiff, Bool.false_eq_true, reduceCtorEq, Nat.reduceLT, Nat.reduceBEq, Int.reduceEq, h_small, h_play, h_order, h_fallen, h0, h1, h9, h10, h11, h12, h13, h14, h15, h16, m28, hge, q3, q4, r1, r2, r3, r4, wpFr2_row u8L_len, playD, List.length_map, decide_false])
        all_goals (simp only [Option.some.injEq, Data.bool.injEq, Data.int.injEq, true_and, decide_eq_true_eq, decide_eq_false_iff_not, Bool.false_eq_true, beq_iff_eq, beq_eq_false_iff_ne, ne_eq] at * <;> omega)
    · have hne : ((o.length : Int) == (l.length : Int)) = false := by simp; omega
      simp only [go_sem, reduceIte, Nat.reduceEqDiff, Nat.reduceAdd, Nat.reduceSub, Nat.reduceMul, Nat.reduceLeDiff, Bool.false_eq_true, reduceCtorEq, Nat.reduceLT, Nat.reduceBEq, Int.reduceEq, h_small, h_play, h_order, h_fallen, hd, hne, List.length_map]
      repeat' first
        | (refine wpG_not (fun h => ?_) (fun h => ?_) <;> simp only [h, go_sem, reduceIte, Nat.reduceEqDiff, Nat.reduceAdd, Nat.reduceSub, Nat.reduceMul, Nat.reduceLeDiff, Bool.false_eq_true, reduceCtorEq, Nat.reduceLT, Nat.reduceBEq, Int.reduceEq, h_small, h_play, h_order, h_fallen, hd, hne, List.length_map])
        | (refine wpG_yes (fun h => ?_) (fun h => ?_) <;> simp only [h, go_sem, reduceIte, Nat.reduceEqDiff, Nat.reduceAdd, Nat.reduceSub, Nat.reduceMul, Nat.reduceLeDiff, Bool.false_eq_true, reduceCtorEq, Nat.reduceLT, Nat.reduceBEq, Int.reduceEq, h_small, h_play, h_order, h_fallen, hd, hne, List.length_map])
        | (refine wpB_not (fun h => ?_) (fun h => ?_) <;> simp only [h, go_sem, reduceIte, Nat.reduceEqDiff, Nat.reduceAdd, Nat.reduceSub, Nat.reduceMul, Nat.reduceLeDiff, Bool.false_eq_true, reduceCtorEq, Nat.reduceLT, Nat.reduceBEq, Int.reduceEq, h_small, h_play, h_order, h_fallen, hd, hne, List.length_map])
        | (refine wpB_yes (fun h => ?_) (fun h => ?_) <;> simp only [h, go_sem, reduceIte, Nat.reduceEqDiff, Nat.reduceAdd, Nat.reduceSub, Nat.reduceMul, Nat.reduceLeDiff, Bool.false_eq_true, reduceCtorEq, Nat.reduceLT, Nat.reduceBEq, Int.reduceEq, h_small, h_play, h_order, h_fallen, hd, hne, List.length_map])
        | (refine wpGD_not (fun h => ?_) (fun h => ?_) <;> simp only [h, go_sem, reduceIte, Nat.reduceEqDiff, Nat.reduceAdd, Nat.reduceSub, Nat.reduceMul, Nat.reduceLeDiff, Bool.false_eq_true, reduceCtorEq, Nat.reduceLT, Nat.reduceBEq, Int.reduceEq, h_small, h_play, h_order, h_fallen, hd, hne, List.length_map])
        | (refine wpGD_yes (fun h => ?_) (fun h => ?_) <;> simp only [h, go_sem, reduceIte, Nat.reduceEqDiff, Nat.reduceAdd, Nat.reduceSub, Nat.reduceMul, Nat.reduceLeDiff, Bool.false_eq_true, reduceCtorEq, Nat.reduceLT, Nat.reduceBEq, Int.reduceEq, h_small, h_play, h_order, h_fallen, hd, hne, List.length_map])

end Go.Mini
