/- More loops over breaches. -/
import Derived.Test.YtehjaghpfnncoaaMiniBr3
set_option linter.unusedSimpArgs false
set_option linter.unusedVariables false
namespace Go.Mini
open Go
set_option maxRecDepth 10000
set_option maxHeartbeats 1000000

def u8L (n : Int) : List Data := [.int .u8 n]
theorem brL_len (b : Br) : (brL b).length = 2 := rfl
theorem brL_one (b : Br) : ((brL b).map MV.dat).all MV.one = true := rfl
theorem u8L_inj : ∀ a b : Int, u8L a = u8L b → a = b := by
  intro a b h
  simpa [u8L] using h
theorem u8L_len (b : Int) : (u8L b).length = 1 := rfl
theorem u8L_one (b : Int) : ((u8L b).map MV.dat).all MV.one = true := rfl

/-- Day by day. -/
def playGo (grace : Int) : Br → Int → List Int → Option (List Br)
  | _, _, [] => some []
  | b, d, n :: r => if ((nextF b.1 b.2 (n.tmod 3) grace d).2 == 0) = true then (playGo grace (nextF b.1 b.2 (n.tmod 3) grace d).1 (d + 1) r).map ((nextF b.1 b.2 (n.tmod 3) grace d).1 :: ·) else none
def playD : Option (List Br) → Data
  | none => .tup [.sl [], .bool false]
  | some l => .tup [.sl (l.map brL), .bool true]
def news8 (l : List Int) : Prop := ∀ n ∈ l, 0 ≤ n ∧ n ≤ 255

theorem tmod3 (n : Int) (h : 0 ≤ n ∧ n ≤ 255) : IntKind.i64.wrap (n.tmod 3) = n.tmod 3 := by
  rw [wrap64]
  · have := Int.tmod_nonneg 3 h.1; omega
  · have := Int.tmod_lt_of_pos n (b := 3) (by omega); omega

noncomputable def F_play : List Data → Option PRes := FF (α := (List Int) × Int × Int) (fun (l, grace, first) => ([.sl (l.map u8L), .int .i64 grace, .int .i64 first] : List Data)) (fun (l, grace, first) => onlyIf (l.length ≤ 1000 ∧ 0 ≤ first ∧ first ≤ 100000 ∧ news8 l) (.same (playD (playGo grace (0, 0) first l))))
theorem F_play_inj : ∀ a b : (List Int) × Int × Int, (fun (l, grace, first) => ([.sl (l.map u8L), .int .i64 grace, .int .i64 first] : List Data)) a = (fun (l, grace, first) => ([.sl (l.map u8L), .int .i64 grace, .int .i64 first] : List Data)) b → a = b := by
    rintro ⟨l1, grace1, first1⟩ ⟨l2, grace2, first2⟩ h
    simp only [List.cons.injEq, Data.sl.injEq, Data.int.injEq] at h; exact Prod.ext (map_inj u8L_inj _ _ h.1) (Prod.ext h.2.1.2 h.2.2.1.2)
@[go_sem] theorem F_play_eq (l : List Int) (grace : Int) (first : Int) (hc : l.length ≤ 1000 ∧ 0 ≤ first ∧ first ≤ 100000 ∧ news8 l) : F_play [.sl (l.map u8L), .int .i64 grace, .int .i64 first] = some (.same (playD (playGo grace (0, 0) first l))) := (FF_eq F_play_inj (l, grace, first)).trans (onlyIf_pos hc _)
theorem w_play (T : Tab) (h_next : T id_breach_Next = mkE F_next) (l : List Int) (grace : Int) (first : Int) (hc : l.length ≤ 1000 ∧ 0 ≤ first ∧ first ≤ 100000 ∧ news8 l) :
    wp T mf_law27_play.body (endS mf_law27_play.res (.same (playD (playGo grace (0, 0) first l)))) ⟨initTm [.dat (.sl (l.map u8L)), .dat (.int .i64 grace), .dat (.int .i64 first)], emp⟩ := by
  refine wp_start ?_
  simp only [mf_law27_play]
  obtain ⟨hl, hf0, hf1, h8⟩ := hc
  simp only [go_sem, reduceIte, Nat.reduceEqDiff, Nat.reduceAdd, Nat.reduceSub, Nat.reduceMul, Nat.reduceLeDiff, Bool.false_eq_true, reduceCtorEq, Nat.reduceLT, Nat.reduceBEq, Int.reduceEq, h_next]
  repeat' first
    | (refine wpG_not (fun h => ?_) (fun h => ?_) <;> simp only [h, go_sem, reduceIte, Nat.reduceEqDiff, Nat.reduceAdd, Nat.reduceSub, Nat.reduceMul, Nat.reduceLeDiff, Bool.false_eq_true, reduceCtorEq, Nat.reduceLT, Nat.reduceBEq, Int.reduceEq, h_next])
    | (refine wpG_yes (fun h => ?_) (fun h => ?_) <;> simp only [h, go_sem, reduceIte, Nat.reduceEqDiff, Nat.reduceAdd, Nat.reduceSub, Nat.reduceMul, Nat.reduceLeDiff, Bool.false_eq_true, reduceCtorEq, Nat.reduceLT, Nat.reduceBEq, Int.reduceEq, h_next])
    | (refine wpB_not (fun h => ?_) (fun h => ?_) <;> simp only [h, go_sem, reduceIte, Nat.reduceEqDiff, Nat.reduceAdd, Nat.reduceSub, Nat.reduceMul, Nat.reduceLeDiff, Bool.false_eq_true, reduceCtorEq, Nat.reduceLT, Nat.reduceBEq, Int.reduceEq, h_next])
    | (refine wpB_yes (fun h => ?_) (fun h => ?_) <;> simp only [h, go_sem, reduceIte, Nat.reduceEqDiff, Nat.reduceAdd, Nat.reduceSub, Nat.reduceMul, Nat.reduceLeDiff, Bool.false_eq_true, reduceCtorEq, Nat.reduceLT, Nat.reduceBEq, Int.reduceEq, h_next])
    | (refine wpGD_not (fun h => ?_) (fun h => ?_) <;> simp only [h, go_sem, reduceIte, Nat.reduceEqDiff, Nat.reduceAdd, Nat.reduceSub, Nat.reduceMul, Nat.reduceLeDiff, Bool.false_eq_true, reduceCtorEq, Nat.reduceLT, Nat.reduceBEq, Int.reduceEq, h_next])
    | (refine wpGD_yes (fun h => ?_) (fun h => ?_) <;> simp only [h, go_sem, reduceIte, Nat.reduceEqDiff, Nat.reduceAdd, Nat.reduceSub, Nat.reduceMul, Nat.reduceLeDiff, Bool.false_eq_true, reduceCtorEq, Nat.reduceLT, Nat.reduceBEq, Int.reduceEq, h_next])
  refine wp_loop_keep [0, 1, 2, 8] [] (fun (i, b, g, out) tm mem => 0 ≤ i ∧ i ≤ (l.length : Int) ∧ (out : List Br).length = i.toNat ∧ playGo grace (0, 0) first l = (playGo grace b (first + i) (l.drop i.toNat)).map (out ++ ·) ∧ tm 10 = .dat (.int .i64 i) ∧ mem 22008 = some (0, (brL b).map .dat) ∧
    tm 9 = .ref 22040 g 2 0 out.length ∧ mem 22040 = some (g, rowE brL out)) (fun (i, _) => (l.length - i).toNat) (0, (0, 0), 0, []) ⟨by omega, by omega, rfl, by simp, by simp [go_sem], by simp [go_sem, brL], by simp [go_sem], by simp [go_sem, rowE]⟩ ?_
  intro vs ms hvs hms
  simp only [go_sem, reduceIte, Nat.reduceEqDiff, Nat.reduceAdd, Nat.reduceSub, Nat.reduceMul, Nat.reduceLeDiff, Bool.false_eq_true, reduceCtorEq, Nat.reduceLT, Nat.reduceBEq, Int.reduceEq, h_next] at hvs hms
  subst hvs hms
  rintro ⟨i, ⟨s, n⟩, g, out⟩ tm mem hk - ⟨hi0, hi, ho, hf, h10, m8, h9, m40⟩
  simp only [go_sem, reduceIte, Nat.reduceEqDiff, Nat.reduceAdd, Nat.reduceSub, Nat.reduceMul, Nat.reduceLeDiff, Bool.false_eq_true, reduceCtorEq, Nat.reduceLT, Nat.reduceBEq, Int.reduceEq, h_next, List.cons.injEq] at hk
  obtain ⟨h0, h1, h2, h8'⟩ := hk
  simp only [brL, List.map_cons, List.map_nil] at m8
  rcases Decidable.em (i < l.length) with hlt | hge
  · obtain ⟨x, hx, hd, -⟩ := at_list l i hi0 hlt
    have hx8 := h8 x (List.mem_of_getElem? hx)
    have hw : IntKind.i64.wrap (first + i) = first + i := wrap64 _ (by omega) (by omega)
    have hap : ∀ a b : Int, appC 22040 g 2 out.length 16 1 [.dat (.int .i64 a), .dat (.int .i64 b)] (some (g, rowE brL out)) = _ := fun a b => app_row brL_len brL_one 22040 g 16 out (a, b) rfl (by omega) (by omega)
    simp only [go_sem, reduceIte, Nat.reduceEqDiff, Nat.reduceAdd, Nat.reduceSub, Nat.reduceMul, Nat.reduceLeDiff, Bool.false_eq_true, reduceCtorEq, Nat.reduceLT, Nat.reduceBEq, Int.reduceEq, h_next, h0, h1, h2, h8', h9, h10, m8, m40, hx, hlt, hi0, hw, tmod3 x hx8, hap, List.length_map, List.getElem?_map, decide_true, u8L, brD, List.cons.injEq, Int.reduceEq]
    repeat' first
      | (refine wpG_not (fun h => ?_) (fun h => ?_) <;> simp only [h, go_sem, reduceIte, Nat.reduceEqDiff, Nat.reduceAdd, Nat.reduceSub, Nat.reduceMul, Nat.reduceLeDiff, Bool.false_eq_true, reduceCtorEq, Nat.reduceLT, Nat.reduceBEq, Int.reduceEq, h_next, h0, h1, h2, h8', h9, h10, m8, m40, hx, hlt, hi0, hw, tmod3 x hx8, hap, List.length_map, List.getElem?_map, decide_true, u8L, brD, List.cons.injEq, Int.reduceEq])
      | (refine wpG_yes (fun h => ?_) (fun h => ?_) <;> simp only [h, go_sem, reduceIte, Nat.reduceEqDiff, Nat.reduceAdd, Nat.reduceSub, Nat.reduceMul, Nat.reduceLeDiff, Bool.false_eq_true, reduceCtorEq, Nat.reduceLT, Nat.reduceBEq, Int.reduceEq, h_next, h0, h1, h2, h8', h9, h10, m8, m40, hx, hlt, hi0, hw, tmod3 x hx8, hap, List.length_map, List.getElem?_map, decide_true, u8L, brD, List.cons.injEq, Int.reduceEq])
      | (refine wpB_not (fun h => ?_) (fun h => ?_) <;> simp only [h, go_sem, reduceIte, Nat.reduceEqDiff, Nat.reduceAdd, Nat.reduceSub, Nat.reduceMul, Nat.reduceLeDiff, Bool.false_eq_true, reduceCtorEq, Nat.reduceLT, Nat.reduceBEq, Int.reduceEq, h_next, h0, h1, h2, h8', h9, h10, m8, m40, hx, hlt, hi0, hw, tmod3 x hx8, hap, List.length_map, List.getElem?_map, decide_true, u8L, brD, List.cons.injEq, Int.reduceEq])
      | (refine wpB_yes (fun h => ?_) (fun h => ?_) <;> simp only [h, go_sem, reduceIte, Nat.reduceEqDiff, Nat.reduceAdd, Nat.reduceSub, Nat.reduceMul, Nat.reduceLeDiff, Bool.false_eq_true, reduceCtorEq, Nat.reduceLT, Nat.reduceBEq, Int.reduceEq, h_next, h0, h1, h2, h8', h9, h10, m8, m40, hx, hlt, hi0, hw, tmod3 x hx8, hap, List.length_map, List.getElem?_map, decide_true, u8L, brD, List.cons.injEq, Int.reduceEq])
      | (refine wpGD_not (fun h => ?_) (fun h => ?_) <;> simp only [h, go_sem, reduceIte, Nat.reduceEqDiff, Nat.reduceAdd, Nat.reduceSub, Nat.reduceMul, Nat.reduceLeDiff, Bool.false_eq_true, reduceCtorEq, Nat.reduceLT, Nat.reduceBEq, Int.reduceEq, h_next, h0, h1, h2, h8', h9, h10, m8, m40, hx, hlt, hi0, hw, tmod3 x hx8, hap, List.length_map, List.getElem?_map, decide_true, u8L, brD, List.cons.injEq, Int.reduceEq])
      | (refine wpGD_yes (fun h => ?_) (fun h => ?_) <;> simp only [h, go_sem, reduceIte, Nat.reduceEqDiff, Nat.reduceAdd, Nat.reduceSub, Nat.reduceMul, Nat.reduceLeDiff, Bool.false_eq_true, reduceCtorEq, Nat.reduceLT, Nat.reduceBEq, Int.reduceEq, h_next, h0, h1, h2, h8', h9, h10, m8, m40, hx, hlt, hi0, hw, tmod3 x hx8, hap, List.length_map, List.getElem?_map, decide_true, u8L, brD, List.cons.injEq, Int.reduceEq])
    · have e : playGo grace (0, 0) first l = none := by
        rw [hf, hd]
        simp only [playGo]
        rw [if_neg (by rw [h]; exact Bool.false_ne_true)]
        rfl
      rw [e]; rfl
    · refine ⟨(i + 1, (nextF s n (x.tmod 3) grace (first + i)).1, g + 1, out ++ [(nextF s n (x.tmod 3) grace (first + i)).1]), by dsimp only; omega, by dsimp only; omega, by dsimp only; omega, by simp; omega, ?_, by rw [wrap64 _ (by omega) (by omega)], rfl, by simp, rfl⟩
      dsimp only
      rw [hf, hd]
      simp only [playGo]
      rw [if_pos h, Int.add_assoc, Option.map_map]
      congr 1
      funext y
      simp
  · have he : l.drop i.toNat = [] := List.drop_eq_nil_of_le (by omega)
    have ht := fun n => toD_row (n := n) brL_len m40
    simp only [go_sem, reduceIte, Nat.reduceEqDiff, Nat.reduceAdd, Nat.reduceSub, Nat.reduceMul, Nat.reduceLeDiff, Bool.false_eq_true, reduceCtorEq, Nat.reduceLT, Nat.reduceBEq, Int.reduceEq, h_next, h0, h1, h2, h8', h9, h10, hge, ht, List.length_map, decide_false]
    repeat' first
      | (refine wpG_not (fun h => ?_) (fun h => ?_) <;> simp only [h, go_sem, reduceIte, Nat.reduceEqDiff, Nat.reduceAdd, Nat.reduceSub, Nat.reduceMul, Nat.reduceLeDiff, Bool.false_eq_true, reduceCtorEq, Nat.reduceLT, Nat.reduceBEq, Int.reduceEq, h_next, h0, h1, h2, h8', h9, h10, hge, ht, List.length_map, decide_false])
      | (refine wpG_yes (fun h => ?_) (fun h => ?_) <;> simp only [h, go_sem, reduceIte, Nat.reduceEqDiff, Nat.reduceAdd, Nat.reduceSub, Nat.reduceMul, Nat.reduceLeDiff, Bool.false_eq_true, reduceCtorEq, Nat.reduceLT, Nat.reduceBEq, Int.reduceEq, h_next, h0, h1, h2, h8', h9, h10, hge, ht, List.length_map, decide_false])
      | (refine wpB_not (fun h => ?_) (fun h => ?_) <;> simp only [h, go_sem, reduceIte, Nat.reduceEqDiff, Nat.reduceAdd, Nat.reduceSub, Nat.reduceMul, Nat.reduceLeDiff, Bool.false_eq_true, reduceCtorEq, Nat.reduceLT, Nat.reduceBEq, Int.reduceEq, h_next, h0, h1, h2, h8', h9, h10, hge, ht, List.length_map, decide_false])
      | (refine wpB_yes (fun h => ?_) (fun h => ?_) <;> simp only [h, go_sem, reduceIte, Nat.reduceEqDiff, Nat.reduceAdd, Nat.reduceSub, Nat.reduceMul, Nat.reduceLeDiff, Bool.false_eq_true, reduceCtorEq, Nat.reduceLT, Nat.reduceBEq, Int.reduceEq, h_next, h0, h1, h2, h8', h9, h10, hge, ht, List.length_map, decide_false])
      | (refine wpGD_not (fun h => ?_) (fun h => ?_) <;> simp only [h, go_sem, reduceIte, Nat.reduceEqDiff, Nat.reduceAdd, Nat.reduceSub, Nat.reduceMul, Nat.reduceLeDiff, Bool.false_eq_true, reduceCtorEq, Nat.reduceLT, Nat.reduceBEq, Int.reduceEq, h_next, h0, h1, h2, h8', h9, h10, hge, ht, List.length_map, decide_false])
      | (refine wpGD_yes (fun h => ?_) (fun h => ?_) <;> simp only [h, go_sem, reduceIte, Nat.reduceEqDiff, Nat.reduceAdd, Nat.reduceSub, Nat.reduceMul, Nat.reduceLeDiff, Bool.false_eq_true, reduceCtorEq, Nat.reduceLT, Nat.reduceBEq, Int.reduceEq, h_next, h0, h1, h2, h8', h9, h10, hge, ht, List.length_map, decide_false])
    rw [hf, he]
    simp [playGo, playD]

/-- A day and the grace behind it: not kept, and never kept. -/
def badL (g : Nat) : List Int → Bool
  | [] => false
  | n :: r => n.tmod 3 == 0 && (r.take g).all fun x => !(x.tmod 3 == 1)
def expGo (g : Nat) : Int → List Int → Int
  | _, [] => -1
  | i, n :: r => if g ≤ r.length then (if badL g (n :: r) = true then i + g else expGo g (i + 1) r) else -1

noncomputable def F_expected : List Data → Option PRes := FF (α := (List Int) × Nat) (fun (l, grace) => ([.sl (l.map u8L), .int .i64 (grace : Int)] : List Data)) (fun (l, grace) => onlyIf (l.length ≤ 1000 ∧ grace ≤ 1000) (.same (.int .i64 (expGo grace 0 l))))
theorem F_expected_inj : ∀ a b : (List Int) × Nat, (fun (l, grace) => ([.sl (l.map u8L), .int .i64 (grace : Int)] : List Data)) a = (fun (l, grace) => ([.sl (l.map u8L), .int .i64 (grace : Int)] : List Data)) b → a = b := by
    rintro ⟨l1, grace1⟩ ⟨l2, grace2⟩ h
    simp only [List.cons.injEq, Data.sl.injEq, Data.int.injEq] at h; exact Prod.ext (map_inj u8L_inj _ _ h.1) (Int.ofNat.inj h.2.1.2)
@[go_sem] theorem F_expected_eq (l : List Int) (grace : Nat) (hc : l.length ≤ 1000 ∧ grace ≤ 1000) : F_expected [.sl (l.map u8L), .int .i64 (grace : Int)] = some (.same (.int .i64 (expGo grace 0 l))) := (FF_eq F_expected_inj (l, grace)).trans (onlyIf_pos hc _)
theorem w_expected (T : Tab)  (l : List Int) (grace : Nat) (hc : l.length ≤ 1000 ∧ grace ≤ 1000) :
    wp T mf_law27_expected.body (endS mf_law27_expected.res (.same (.int .i64 (expGo grace 0 l)))) ⟨initTm [.dat (.sl (l.map u8L)), .dat (.int .i64 (grace : Int))], emp⟩ := by
  refine wp_start ?_
  simp only [mf_law27_expected]
  obtain ⟨hl, hg⟩ := hc
  simp only [go_sem, reduceIte, Nat.reduceEqDiff, Nat.reduceAdd, Nat.reduceSub, Nat.reduceMul, Nat.reduceLeDiff, Bool.false_eq_true, reduceCtorEq, Nat.reduceLT, Nat.reduceBEq, Int.reduceEq]
  repeat' first
    | (refine wpG_not (fun h => ?_) (fun h => ?_) <;> simp only [h, go_sem, reduceIte, Nat.reduceEqDiff, Nat.reduceAdd, Nat.reduceSub, Nat.reduceMul, Nat.reduceLeDiff, Bool.false_eq_true, reduceCtorEq, Nat.reduceLT, Nat.reduceBEq, Int.reduceEq])
    | (refine wpG_yes (fun h => ?_) (fun h => ?_) <;> simp only [h, go_sem, reduceIte, Nat.reduceEqDiff, Nat.reduceAdd, Nat.reduceSub, Nat.reduceMul, Nat.reduceLeDiff, Bool.false_eq_true, reduceCtorEq, Nat.reduceLT, Nat.reduceBEq, Int.reduceEq])
    | (refine wpB_not (fun h => ?_) (fun h => ?_) <;> simp only [h, go_sem, reduceIte, Nat.reduceEqDiff, Nat.reduceAdd, Nat.reduceSub, Nat.reduceMul, Nat.reduceLeDiff, Bool.false_eq_true, reduceCtorEq, Nat.reduceLT, Nat.reduceBEq, Int.reduceEq])
    | (refine wpB_yes (fun h => ?_) (fun h => ?_) <;> simp only [h, go_sem, reduceIte, Nat.reduceEqDiff, Nat.reduceAdd, Nat.reduceSub, Nat.reduceMul, Nat.reduceLeDiff, Bool.false_eq_true, reduceCtorEq, Nat.reduceLT, Nat.reduceBEq, Int.reduceEq])
    | (refine wpGD_not (fun h => ?_) (fun h => ?_) <;> simp only [h, go_sem, reduceIte, Nat.reduceEqDiff, Nat.reduceAdd, Nat.reduceSub, Nat.reduceMul, Nat.reduceLeDiff, Bool.false_eq_true, reduceCtorEq, Nat.reduceLT, Nat.reduceBEq, Int.reduceEq])
    | (refine wpGD_yes (fun h => ?_) (fun h => ?_) <;> simp only [h, go_sem, reduceIte, Nat.reduceEqDiff, Nat.reduceAdd, Nat.reduceSub, Nat.reduceMul, Nat.reduceLeDiff, Bool.false_eq_true, reduceCtorEq, Nat.reduceLT, Nat.reduceBEq, Int.reduceEq])
  refine wp_loop_keep [0, 1] [] (fun i tm mem => 0 ≤ i ∧ i ≤ (l.length : Int) ∧ expGo grace 0 l = expGo grace i (l.drop i.toNat) ∧ tm 5 = .dat (.int .i64 i)) (fun i => (l.length - i).toNat) 0 ⟨by omega, by omega, by simp, by simp [go_sem]⟩ ?_
  intro vs ms hvs hms
  simp only [go_sem, reduceIte, Nat.reduceEqDiff, Nat.reduceAdd, Nat.reduceSub, Nat.reduceMul, Nat.reduceLeDiff, Bool.false_eq_true, reduceCtorEq, Nat.reduceLT, Nat.reduceBEq, Int.reduceEq] at hvs hms
  subst hvs hms
  rintro i tm mem hk - ⟨hi0, hi, hf, h5⟩
  simp only [go_sem, reduceIte, Nat.reduceEqDiff, Nat.reduceAdd, Nat.reduceSub, Nat.reduceMul, Nat.reduceLeDiff, Bool.false_eq_true, reduceCtorEq, Nat.reduceLT, Nat.reduceBEq, Int.reduceEq, List.cons.injEq] at hk
  obtain ⟨h0, h1⟩ := hk
  have hw : IntKind.i64.wrap (i + grace) = i + grace := wrap64 _ (by omega) (by omega)
  have hw1 : IntKind.i64.wrap (i + 1) = i + 1 := wrap64 _ (by omega) (by omega)
  rcases Decidable.em (i + grace < l.length) with hlt | hge
  · have hlt' : i < l.length := by omega
    obtain ⟨n, hx, hd, -⟩ := at_list l i hi0 hlt'
    have hlen : ((l.drop (i + 1).toNat).length : Int) = l.length - (i + 1) := by rw [List.length_drop]; omega
    simp only [go_sem, reduceIte, Nat.reduceEqDiff, Nat.reduceAdd, Nat.reduceSub, Nat.reduceMul, Nat.reduceLeDiff, Bool.false_eq_true, reduceCtorEq, Nat.reduceLT, Nat.reduceBEq, Int.reduceEq, h0, h1, h5, hx, hlt, hlt', hi0, hw, hw1, List.length_map, List.getElem?_map, decide_true, u8L, List.cons.injEq]
    repeat' first
      | (refine wpG_not (fun h => ?_) (fun h => ?_) <;> simp only [h, go_sem, reduceIte, Nat.reduceEqDiff, Nat.reduceAdd, Nat.reduceSub, Nat.reduceMul, Nat.reduceLeDiff, Bool.false_eq_true, reduceCtorEq, Nat.reduceLT, Nat.reduceBEq, Int.reduceEq, h0, h1, h5, hx, hlt, hlt', hi0, hw, hw1, List.length_map, List.getElem?_map, decide_true, u8L, List.cons.injEq])
      | (refine wpG_yes (fun h => ?_) (fun h => ?_) <;> simp only [h, go_sem, reduceIte, Nat.reduceEqDiff, Nat.reduceAdd, Nat.reduceSub, Nat.reduceMul, Nat.reduceLeDiff, Bool.false_eq_true, reduceCtorEq, Nat.reduceLT, Nat.reduceBEq, Int.reduceEq, h0, h1, h5, hx, hlt, hlt', hi0, hw, hw1, List.length_map, List.getElem?_map, decide_true, u8L, List.cons.injEq])
      | (refine wpB_not (fun h => ?_) (fun h => ?_) <;> simp only [h, go_sem, reduceIte, Nat.reduceEqDiff, Nat.reduceAdd, Nat.reduceSub, Nat.reduceMul, Nat.reduceLeDiff, Bool.false_eq_true, reduceCtorEq, Nat.reduceLT, Nat.reduceBEq, Int.reduceEq, h0, h1, h5, hx, hlt, hlt', hi0, hw, hw1, List.length_map, List.getElem?_map, decide_true, u8L, List.cons.injEq])
      | (refine wpB_yes (fun h => ?_) (fun h => ?_) <;> simp only [h, go_sem, reduceIte, Nat.reduceEqDiff, Nat.reduceAdd, Nat.reduceSub, Nat.reduceMul, Nat.reduceLeDiff, Bool.false_eq_true, reduceCtorEq, Nat.reduceLT, Nat.reduceBEq, Int.reduceEq, h0, h1, h5, hx, hlt, hlt', hi0, hw, hw1, List.length_map, List.getElem?_map, decide_true, u8L, List.cons.injEq])
      | (refine wpGD_not (fun h => ?_) (fun h => ?_) <;> simp only [h, go_sem, reduceIte, Nat.reduceEqDiff, Nat.reduceAdd, Nat.reduceSub, Nat.reduceMul, Nat.reduceLeDiff, Bool.false_eq_true, reduceCtorEq, Nat.reduceLT, Nat.reduceBEq, Int.reduceEq, h0, h1, h5, hx, hlt, hlt', hi0, hw, hw1, List.length_map, List.getElem?_map, decide_true, u8L, List.cons.injEq])
      | (refine wpGD_yes (fun h => ?_) (fun h => ?_) <;> simp only [h, go_sem, reduceIte, Nat.reduceEqDiff, Nat.reduceAdd, Nat.reduceSub, Nat.reduceMul, Nat.reduceLeDiff, Bool.false_eq_true, reduceCtorEq, Nat.reduceLT, Nat.reduceBEq, Int.reduceEq, h0, h1, h5, hx, hlt, hlt', hi0, hw, hw1, List.length_map, List.getElem?_map, decide_true, u8L, List.cons.injEq])
    refine wp_loop_keep [0, 1, 5] [] (fun (k, b) tm mem => i + 1 ≤ k ∧ k ≤ i + grace + 1 ∧ (b && ((l.drop k.toNat).take (i + grace + 1 - k).toNat).all fun x => !(x.tmod 3 == 1)) = badL grace (l.drop i.toNat) ∧ tm 7 = .dat (.int .i64 k) ∧ tm 6 = .dat (.bool b))
      (fun (k, b) => (i + grace + 1 - k).toNat) (i + 1, n.tmod 3 == 0) ⟨by omega, by omega, ?_, ?_, ?_⟩ ?_
    · rw [hd]
      dsimp only [badL]
      rw [show (i + grace + 1 - (i + 1)).toNat = grace by omega]
    · rfl
    · rfl
    intro vs ms hvs hms
    simp only [go_sem, reduceIte, Nat.reduceEqDiff, Nat.reduceAdd, Nat.reduceSub, Nat.reduceMul, Nat.reduceLeDiff, Bool.false_eq_true, reduceCtorEq, Nat.reduceLT, Nat.reduceBEq, Int.reduceEq, h0, h1, h5] at hvs hms
    subst hvs hms
    rintro ⟨k, b⟩ tm mem hk - ⟨hk0, hk1, hb, h7, h6⟩
    simp only [go_sem, reduceIte, Nat.reduceEqDiff, Nat.reduceAdd, Nat.reduceSub, Nat.reduceMul, Nat.reduceLeDiff, Bool.false_eq_true, reduceCtorEq, Nat.reduceLT, Nat.reduceBEq, Int.reduceEq, List.cons.injEq] at hk
    obtain ⟨h0, h1, h5⟩ := hk
    rcases Decidable.em (k ≤ i + grace) with hle | hgt
    · obtain ⟨x, hx', hd', -⟩ := at_list l k (by omega) (by omega)
      have hk2 : 0 ≤ k := by omega
      have ht : (i + grace + 1 - k).toNat = (i + grace + 1 - (k + 1)).toNat + 1 := by omega
      rw [hd', ht, List.take_succ_cons, List.all_cons] at hb
      simp only [go_sem, reduceIte, Nat.reduceEqDiff, Nat.reduceAdd, Nat.reduceSub, Nat.reduceMul, Nat.reduceLeDiff, Bool.false_eq_true, reduceCtorEq, Nat.reduceLT, Nat.reduceBEq, Int.reduceEq, h0, h1, h5, h6, h7, hx', hle, hk2, hw, List.length_map, List.getElem?_map, decide_true, u8L, List.cons.injEq, pickM_bool, wrap64 (k + 1) (by omega) (by omega)]
      repeat' first
        | (refine wpG_not (fun h => ?_) (fun h => ?_) <;> simp only [h, go_sem, reduceIte, Nat.reduceEqDiff, Nat.reduceAdd, Nat.reduceSub, Nat.reduceMul, Nat.reduceLeDiff, Bool.false_eq_true, reduceCtorEq, Nat.reduceLT, Nat.reduceBEq, Int.reduceEq, h0, h1, h5, h6, h7, hx', hle, hk2, hw, List.length_map, List.getElem?_map, decide_true, u8L, List.cons.injEq, pickM_bool, wrap64 (k + 1) (by omega) (by omega)])
        | (refine wpG_yes (fun h => ?_) (fun h => ?_) <;> simp only [h, go_sem, reduceIte, Nat.reduceEqDiff, Nat.reduceAdd, Nat.reduceSub, Nat.reduceMul, Nat.reduceLeDiff, Bool.false_eq_true, reduceCtorEq, Nat.reduceLT, Nat.reduceBEq, Int.reduceEq, h0, h1, h5, h6, h7, hx', hle, hk2, hw, List.length_map, List.getElem?_map, decide_true, u8L, List.cons.injEq, pickM_bool, wrap64 (k + 1) (by omega) (by omega)])
        | (refine wpB_not (fun h => ?_) (fun h => ?_) <;> simp only [h, go_sem, reduceIte, Nat.reduceEqDiff, Nat.reduceAdd, Nat.reduceSub, Nat.reduceMul, Nat.reduceLeDiff, Bool.false_eq_true, reduceCtorEq, Nat.reduceLT, Nat.reduceBEq, Int.reduceEq, h0, h1, h5, h6, h7, hx', hle, hk2, hw, List.length_map, List.getElem?_map, decide_true, u8L, List.cons.injEq, pickM_bool, wrap64 (k + 1) (by omega) (by omega)])
        | (refine wpB_yes (fun h => ?_) (fun h => ?_) <;> simp only [h, go_sem, reduceIte, Nat.reduceEqDiff, Nat.reduceAdd, Nat.reduceSub, Nat.reduceMul, Nat.reduceLeDiff, Bool.false_eq_true, reduceCtorEq, Nat.reduceLT, Nat.reduceBEq, Int.reduceEq, h0, h1, h5, h6, h7, hx', hle, hk2, hw, List.length_map, List.getElem?_map, decide_true, u8L, List.cons.injEq, pickM_bool, wrap64 (k + 1) (by omega) (by omega)])
        | (refine wpGD_not (fun h => ?_) (fun h => ?_) <;> simp only [h, go_sem, reduceIte, Nat.reduceEqDiff, Nat.reduceAdd, Nat.reduceSub, Nat.reduceMul, Nat.reduceLeDiff, Bool.false_eq_true, reduceCtorEq, Nat.reduceLT, Nat.reduceBEq, Int.reduceEq, h0, h1, h5, h6, h7, hx', hle, hk2, hw, List.length_map, List.getElem?_map, decide_true, u8L, List.cons.injEq, pickM_bool, wrap64 (k + 1) (by omega) (by omega)])
        | (refine wpGD_yes (fun h => ?_) (fun h => ?_) <;> simp only [h, go_sem, reduceIte, Nat.reduceEqDiff, Nat.reduceAdd, Nat.reduceSub, Nat.reduceMul, Nat.reduceLeDiff, Bool.false_eq_true, reduceCtorEq, Nat.reduceLT, Nat.reduceBEq, Int.reduceEq, h0, h1, h5, h6, h7, hx', hle, hk2, hw, List.length_map, List.getElem?_map, decide_true, u8L, List.cons.injEq, pickM_bool, wrap64 (k + 1) (by omega) (by omega)])
      · exact ⟨(k + 1, !(x.tmod 3 == 1)), by dsimp only; omega, by dsimp only; omega, by dsimp only; omega, by rw [← hb]; simp only [*, reduceIte, Bool.not_true, Bool.not_false, Bool.or_true, Bool.true_or, Bool.or_false, Bool.false_or, Bool.and_true, Bool.true_and, Bool.and_false, Bool.false_and, Bool.false_eq_true, beq_self_eq_true, bne], rfl, rfl⟩
      · exact ⟨(k + 1, false), by dsimp only; omega, by dsimp only; omega, by dsimp only; omega, by rw [← hb]; simp only [*, reduceIte, Bool.not_true, Bool.not_false, Bool.or_true, Bool.true_or, Bool.or_false, Bool.false_or, Bool.and_true, Bool.true_and, Bool.and_false, Bool.false_and, Bool.false_eq_true, beq_self_eq_true, bne], rfl, rfl⟩
    · have ek : (i + grace + 1 - k).toNat = 0 := by omega
      rw [ek, List.take_zero, List.all_nil, Bool.and_true] at hb
      simp only [go_sem, reduceIte, Nat.reduceEqDiff, Nat.reduceAdd, Nat.reduceSub, Nat.reduceMul, Nat.reduceLeDiff, Bool.false_eq_true, reduceCtorEq, Nat.reduceLT, Nat.reduceBEq, Int.reduceEq, h0, h1, h5, h6, h7, hgt, hw, hw1, decide_false]
      repeat' first
        | (refine wpG_not (fun h => ?_) (fun h => ?_) <;> simp only [h, go_sem, reduceIte, Nat.reduceEqDiff, Nat.reduceAdd, Nat.reduceSub, Nat.reduceMul, Nat.reduceLeDiff, Bool.false_eq_true, reduceCtorEq, Nat.reduceLT, Nat.reduceBEq, Int.reduceEq, h0, h1, h5, h6, h7, hgt, hw, hw1, decide_false])
        | (refine wpG_yes (fun h => ?_) (fun h => ?_) <;> simp only [h, go_sem, reduceIte, Nat.reduceEqDiff, Nat.reduceAdd, Nat.reduceSub, Nat.reduceMul, Nat.reduceLeDiff, Bool.false_eq_true, reduceCtorEq, Nat.reduceLT, Nat.reduceBEq, Int.reduceEq, h0, h1, h5, h6, h7, hgt, hw, hw1, decide_false])
        | (refine wpB_not (fun h => ?_) (fun h => ?_) <;> simp only [h, go_sem, reduceIte, Nat.reduceEqDiff, Nat.reduceAdd, Nat.reduceSub, Nat.reduceMul, Nat.reduceLeDiff, Bool.false_eq_true, reduceCtorEq, Nat.reduceLT, Nat.reduceBEq, Int.reduceEq, h0, h1, h5, h6, h7, hgt, hw, hw1, decide_false])
        | (refine wpB_yes (fun h => ?_) (fun h => ?_) <;> simp only [h, go_sem, reduceIte, Nat.reduceEqDiff, Nat.reduceAdd, Nat.reduceSub, Nat.reduceMul, Nat.reduceLeDiff, Bool.false_eq_true, reduceCtorEq, Nat.reduceLT, Nat.reduceBEq, Int.reduceEq, h0, h1, h5, h6, h7, hgt, hw, hw1, decide_false])
        | (refine wpGD_not (fun h => ?_) (fun h => ?_) <;> simp only [h, go_sem, reduceIte, Nat.reduceEqDiff, Nat.reduceAdd, Nat.reduceSub, Nat.reduceMul, Nat.reduceLeDiff, Bool.false_eq_true, reduceCtorEq, Nat.reduceLT, Nat.reduceBEq, Int.reduceEq, h0, h1, h5, h6, h7, hgt, hw, hw1, decide_false])
        | (refine wpGD_yes (fun h => ?_) (fun h => ?_) <;> simp only [h, go_sem, reduceIte, Nat.reduceEqDiff, Nat.reduceAdd, Nat.reduceSub, Nat.reduceMul, Nat.reduceLeDiff, Bool.false_eq_true, reduceCtorEq, Nat.reduceLT, Nat.reduceBEq, Int.reduceEq, h0, h1, h5, h6, h7, hgt, hw, hw1, decide_false])
      · rw [hf, hd, ← hd]
        rw [hd] at hb ⊢
        unfold expGo
        rw [if_pos (by omega), ← hb, if_pos (by assumption)]
      · refine ⟨i + 1, by omega, by omega, by omega, ?_, rfl⟩
        rw [hf, hd] 
        rw [hd] at hb
        conv => lhs; unfold expGo
        rw [if_pos (by omega), ← hb, if_neg (by rw [h]; exact Bool.false_ne_true)]
  · have hdec : decide (i + grace < (l.length : Int)) = false := decide_eq_false hge
    simp only [go_sem, reduceIte, Nat.reduceEqDiff, Nat.reduceAdd, Nat.reduceSub, Nat.reduceMul, Nat.reduceLeDiff, Bool.false_eq_true, reduceCtorEq, Nat.reduceLT, Nat.reduceBEq, Int.reduceEq, h0, h1, h5, hw, hge, List.length_map, decide_false]
    repeat' first
      | (refine wpG_not (fun h => ?_) (fun h => ?_) <;> simp only [h, go_sem, reduceIte, Nat.reduceEqDiff, Nat.reduceAdd, Nat.reduceSub, Nat.reduceMul, Nat.reduceLeDiff, Bool.false_eq_true, reduceCtorEq, Nat.reduceLT, Nat.reduceBEq, Int.reduceEq, h0, h1, h5, hw, hge, List.length_map, decide_false])
      | (refine wpG_yes (fun h => ?_) (fun h => ?_) <;> simp only [h, go_sem, reduceIte, Nat.reduceEqDiff, Nat.reduceAdd, Nat.reduceSub, Nat.reduceMul, Nat.reduceLeDiff, Bool.false_eq_true, reduceCtorEq, Nat.reduceLT, Nat.reduceBEq, Int.reduceEq, h0, h1, h5, hw, hge, List.length_map, decide_false])
      | (refine wpB_not (fun h => ?_) (fun h => ?_) <;> simp only [h, go_sem, reduceIte, Nat.reduceEqDiff, Nat.reduceAdd, Nat.reduceSub, Nat.reduceMul, Nat.reduceLeDiff, Bool.false_eq_true, reduceCtorEq, Nat.reduceLT, Nat.reduceBEq, Int.reduceEq, h0, h1, h5, hw, hge, List.length_map, decide_false])
      | (refine wpB_yes (fun h => ?_) (fun h => ?_) <;> simp only [h, go_sem, reduceIte, Nat.reduceEqDiff, Nat.reduceAdd, Nat.reduceSub, Nat.reduceMul, Nat.reduceLeDiff, Bool.false_eq_true, reduceCtorEq, Nat.reduceLT, Nat.reduceBEq, Int.reduceEq, h0, h1, h5, hw, hge, List.length_map, decide_false])
      | (refine wpGD_not (fun h => ?_) (fun h => ?_) <;> simp only [h, go_sem, reduceIte, Nat.reduceEqDiff, Nat.reduceAdd, Nat.reduceSub, Nat.reduceMul, Nat.reduceLeDiff, Bool.false_eq_true, reduceCtorEq, Nat.reduceLT, Nat.reduceBEq, Int.reduceEq, h0, h1, h5, hw, hge, List.length_map, decide_false])
      | (refine wpGD_yes (fun h => ?_) (fun h => ?_) <;> simp only [h, go_sem, reduceIte, Nat.reduceEqDiff, Nat.reduceAdd, Nat.reduceSub, Nat.reduceMul, Nat.reduceLeDiff, Bool.false_eq_true, reduceCtorEq, Nat.reduceLT, Nat.reduceBEq, Int.reduceEq, h0, h1, h5, hw, hge, List.length_map, decide_false])
    rw [hf]
    cases hd : l.drop i.toNat with
    | nil => rfl
    | cons n r =>
      have : (l.drop i.toNat).length = r.length + 1 := by rw [hd]; rfl
      rw [List.length_drop] at this
      unfold expGo
      rw [if_neg (by omega)]

end Go.Mini
