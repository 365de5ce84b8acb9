/- The plain laws of the breaches: no program in sight. -/
import Derived.Test.YtehjaghpfnncoaaMiniBr4
set_option linter.unusedSimpArgs false
set_option linter.unusedVariables false
namespace Go.Mini
open Go

theorem right_iff (s n : Int) : rightB s n = true ↔ (s = 0 ∧ n = 0) ∨ (1 ≤ s ∧ s ≤ 3 ∧ 0 ≤ n ∧ n ≤ 200000) := by
  simp [rightB, dayB]
  omega
theorem right_same (s n : Int) : rightB2 s n = rightB s n := by
  have h : rightB2 s n = true ↔ rightB s n = true := by
    rw [right_iff]
    unfold rightB2
    split
    · rename_i h
      simp at h
      simp
      omega
    · rename_i h
      simp at h
      simp
      omega
  exact Bool.eq_iff_iff.2 h
theorem day_iff (n : Int) : dayB n = true ↔ 0 ≤ n ∧ n ≤ 200000 := by
  simp [dayB]
theorem notice_same (s n d : Int) : notice2F s n d = noticeF s n d := by
  unfold notice2F noticeF knownF
  rw [right_same]
  cases h : rightB s n <;> simp [dayB] <;> split <;> split <;> simp_all <;> omega
theorem waive_same (s n d : Int) : waive2F s n d = waiveF s n d := by
  unfold waive2F waiveF knownF
  rw [right_same]
  cases h : rightB s n
  · simp
  · rw [right_iff] at h
    simp [dayB]
    split <;> split <;> simp_all <;> (try split) <;> simp_all <;> omega
theorem next_same (s n k g d : Int) : next2F s n k g d = nextF s n k g d := by
  cases h : rightB s n
  · unfold next2F nextF
    rw [right_same, h]
    simp
  · have h' := (right_iff _ _).1 h
    by_cases hb : k < 0 ∨ k ≥ 3 ∨ g < 0 ∨ g > 1000 ∨ d < 0 ∨ d > 200000
    · have e1 : next2F s n k g d = ((s, n), 1) := by
        unfold next2F
        rw [right_same, h, if_pos (by simp; omega)]
      have e2 : nextF s n k g d = ((s, n), 1) := by
        have : dayB d = false ∨ (k < 0 ∨ k ≥ 3 ∨ g < 0 ∨ g > 1000) := by
          rcases hb with h | h | h | h | h | h <;> first | exact .inr (by omega) | exact .inl (by rw [← Bool.not_eq_true, day_iff]; omega)
        unfold nextF
        rw [h, if_pos (by rcases this with e | e <;> simp [e]; omega)]
      rw [e1, e2]
    · have hday : dayB d = true := (day_iff d).2 (by omega)
      have e1 : next2F s n k g d = if d < n then ((s, n), 20) else next22F s n k g d := by
        unfold next2F
        rw [right_same, h, if_neg (by simp; omega)]
        simp
      have e2 : nextF s n k g d = if d < n then ((s, n), 20) else if s = 1 ∧ k = 1 then ((0, 0), 0) else next2 s n k g d := by
        unfold nextF
        rw [h, hday, if_neg (by simp; omega)]
        simp
      rw [e1, e2]
      by_cases hd : d < n
      · rw [if_pos hd, if_pos hd]
      · rw [if_neg hd, if_neg hd]
        unfold next22F next2 next3
        rw [wrap64 (d - n) (by omega) (by omega), wrap64 (n + g) (by omega) (by omega), wrap64 (d - d) (by omega) (by omega)]
        rcases h' with ⟨rfl, rfl⟩ | ⟨h1, h2, h3, h4⟩
        · by_cases h1 : k = 0 <;> by_cases h2 : g = 0 <;> simp [h1, h2] <;> omega
        · by_cases h5 : s = 1
          · subst h5
            by_cases h6 : k = 1
            · simp [h6]
            · by_cases h7 : d ≥ n + g
              · simp [h6, h7]; omega
              · simp [h6, h7]; omega
          · have : s ≠ 0 := by omega
            simp [h5, this]

/-! ### The worst -/
def ltB (w b : Br) : Prop := b.1 > w.1 ∨ b.1 = w.1 ∧ b.2 < w.2
def allR (l : List Br) : Prop := ∀ b ∈ l, rightB b.1 b.2 = true
def IsWorst (l : List Br) (w : Br) : Prop := w ∈ (0, 0) :: l ∧ ∀ b ∈ (0, 0) :: l, ¬ ltB w b

theorem IsWorst.unique {l : List Br} {w w' : Br} (h : IsWorst l w) (h' : IsWorst l w') : w = w' := by
  have h1 := h.2 w' h'.1
  have h2 := h'.2 w h.1
  unfold ltB at h1 h2
  exact Prod.ext (by omega) (by omega)

theorem worse_or (w b : Br) : (worse w b = b ∧ ltB w b) ∨ (worse w b = w ∧ ¬ ltB w b) := by
  unfold worse ltB
  by_cases h : b.1 > w.1 ∨ b.1 = w.1 ∧ b.2 < w.2
  · left; exact ⟨by rw [if_pos (by simpa using h)], h⟩
  · right; exact ⟨by rw [if_neg (by simpa using h)], h⟩

theorem worstGo_wrong (l : List Br) (h : ¬ allR l) : ∀ w, worstGo w l = (0, 0) := by
  induction l with
  | nil => exact absurd (fun b hb => by cases hb) h
  | cons b r ih =>
    intro w
    unfold worstGo
    by_cases hb : rightB b.1 b.2 = true
    · rw [if_neg (by simp [hb])]
      exact ih (fun hr => h fun x hx => (List.mem_cons.1 hx).elim (fun e => e ▸ hb) (hr x)) _
    · rw [if_pos (by simpa using hb)]

theorem worstGo_in (l : List Br) (h : allR l) : ∀ w, worstGo w l ∈ w :: l ∧ ∀ b ∈ w :: l, ¬ ltB (worstGo w l) b := by
  induction l with
  | nil => intro w; exact ⟨by simp [worstGo], fun b hb => by simp at hb; subst hb; unfold worstGo ltB; omega⟩
  | cons b r ih =>
    intro w
    have hb : rightB b.1 b.2 = true := h b (by simp)
    have ih' := ih (fun x hx => h x (by simp [hx])) (worse w b)
    unfold worstGo
    rw [if_neg (by simp [hb])]
    obtain ⟨h1, h2⟩ := ih'
    have hm : worse w b = b ∧ ltB w b ∨ worse w b = w ∧ ¬ ltB w b := worse_or w b
    refine ⟨?_, fun x hx => ?_⟩
    · rcases List.mem_cons.1 h1 with e | e
      · rw [e]; rcases hm with ⟨e, _⟩ | ⟨e, _⟩ <;> rw [e] <;> simp
      · simp [e]
    · have hw := h2 (worse w b) (by simp)
      rcases List.mem_cons.1 hx with e | e
      · subst e
        rcases hm with ⟨e, hl⟩ | ⟨e, _⟩
        · rw [e] at hw ⊢; unfold ltB at *; omega
        · rw [e] at hw ⊢; exact hw
      · rcases List.mem_cons.1 e with e | e
        · subst e
          rcases hm with ⟨e, hl⟩ | ⟨e, hl⟩
          · rw [e] at hw ⊢; exact hw
          · rw [e] at hw ⊢; unfold ltB at *; omega
        · exact h2 x (by simp [e])

theorem worst_is (l : List Br) (h : allR l) : IsWorst l (worstGo (0, 0) l) := worstGo_in l h (0, 0)

theorem since_in (k : Int) (l : List Br) (h : allR l) : ∀ s, (sinceGo k s l = s ∨ (k, sinceGo k s l) ∈ l) ∧ (∀ b ∈ l, b.1 = k → 0 ≤ sinceGo k s l ∧ sinceGo k s l ≤ b.2) ∧ (0 ≤ s → 0 ≤ sinceGo k s l ∧ sinceGo k s l ≤ s) := by
  induction l with
  | nil => intro s; exact ⟨.inl rfl, (fun b hb => by simp at hb), fun h => ⟨h, Int.le_refl _⟩⟩
  | cons b r ih =>
    intro s
    have hb : rightB b.1 b.2 = true := h b (by simp)
    rw [right_iff] at hb
    have ih' := fun s => ih (fun x hx => h x (by simp [hx])) s
    unfold sinceGo
    by_cases hc : b.1 = k ∧ (s < 0 ∨ b.2 < s)
    · rw [if_pos (by simpa using hc)]
      obtain ⟨h1, h2, h3⟩ := ih' b.2
      have h3 := h3 (by omega)
      refine ⟨.inr ?_, fun x hx hk => ?_, fun hs => by omega⟩
      · rcases h1 with e | e
        · rw [e, ← hc.1]; simp
        · simp [e]
      · rcases List.mem_cons.1 hx with e | e
        · subst e; exact h3
        · exact h2 x e hk
    · rw [if_neg (by simpa using hc)]
      obtain ⟨h1, h2, h3⟩ := ih' s
      refine ⟨h1.imp id fun e => by simp [e], fun x hx hk => ?_, h3⟩
      rcases List.mem_cons.1 hx with e | e
      · subst e
        have := h3 (by omega)
        omega
      · exact h2 x e hk

theorem worst2_is (l : List Br) (h : allR l) : IsWorst l (worst2 l) := by
  have hall : (l.all fun b => rightB2 b.1 b.2) = true := by
    rw [List.all_eq_true]
    intro b hb
    rw [right_same]
    exact h b hb
  unfold worst2
  rw [if_pos hall]
  have key : ∀ k : Nat, (∀ b ∈ l, b.1 ≤ k) → IsWorst l (worstK k l) := by
    intro k
    induction k with
    | zero =>
      intro hk
      refine ⟨by simp [worstK], fun b hb => ?_⟩
      rcases List.mem_cons.1 hb with e | e
      · subst e; unfold worstK ltB; omega
      · have h1 := hk b e
        have h2 := (right_iff _ _).1 (h b e)
        unfold worstK ltB
        simp only [Int.natCast_zero] at h1
        omega
    | succ k ih =>
      intro hk
      obtain ⟨h1, h2, -⟩ := since_in ((k + 1 : Nat) : Int) l h (-1)
      unfold worstK
      by_cases hs : sinceGo ((k + 1 : Nat) : Int) (-1) l ≥ 0
      · rw [if_pos (by simpa using hs)]
        refine ⟨?_, fun b hb => ?_⟩
        · rcases h1 with e | e
          · omega
          · exact List.mem_cons_of_mem _ e
        · rcases List.mem_cons.1 hb with e | e
          · subst e; unfold ltB; simp only; omega
          · have h3 := hk b e
            have h4 := h2 b e
            unfold ltB
            simp only
            omega
      · rw [if_neg (by simpa using hs)]
        refine ih fun b hb => ?_
        have h3 := hk b hb
        have h4 := h2 b hb
        omega
  refine key 3 fun b hb => ?_
  have := (right_iff _ _).1 (h b hb)
  omega

theorem worst_same (l : List Br) : worst2 l = worstGo (0, 0) l := by
  by_cases h : allR l
  · exact (worst2_is l h).unique (worst_is l h)
  · rw [worstGo_wrong l h]
    unfold worst2
    rw [if_neg]
    intro hall
    rw [List.all_eq_true] at hall
    exact h fun b hb => by rw [← right_same]; exact hall b hb

theorem worst_two (l more : List Br) (h1 : allR l) (h2 : allR more) : worstGo (0, 0) (more ++ l) = worstGo (0, 0) [worstGo (0, 0) l, worstGo (0, 0) more] := by
  have ha := worst_is l h1
  have hb := worst_is more h2
  have r0 : rightB (0 : Int) 0 = true := by decide
  have hr : ∀ {l : List Br} {w : Br}, allR l → w ∈ (0, 0) :: l → rightB w.1 w.2 = true := by
    intro l w hl hw
    rcases List.mem_cons.1 hw with e | e
    · subst e; exact r0
    · exact hl w e
  have hc := worst_is [worstGo (0, 0) l, worstGo (0, 0) more] (by
    intro b hb'
    simp only [List.mem_cons, List.not_mem_nil, or_false] at hb'
    rcases hb' with e | e
    · subst e; exact hr h1 ha.1
    · subst e; exact hr h2 hb.1)
  refine (worst_is (more ++ l) fun b hb => (List.mem_append.1 hb).elim (h2 b) (h1 b)).unique ⟨?_, fun b hb' => ?_⟩
  · have := hc.1
    have h1 := ha.1
    have h2 := hb.1
    simp only [List.mem_cons, List.not_mem_nil, or_false, List.mem_append] at this h1 h2 ⊢
    rcases this with e | e | e
    · exact .inl e
    · rw [e]; exact h1.imp id .inr
    · rw [e]; exact h2.imp id .inl
  · have e1 := hc.2 (worstGo (0, 0) l) (by simp)
    have e2 := hc.2 (worstGo (0, 0) more) (by simp)
    simp only [List.mem_cons, List.mem_append] at hb'
    rcases hb' with e | e | e
    · exact hc.2 b (by simp [e])
    · have := hb.2 b (by simp [e])
      unfold ltB at *; omega
    · have := ha.2 b (by simp [e])
      unfold ltB at *; omega

/-! ### The story -/
theorem exp_short (g : Nat) : ∀ (r : List Int) (i : Int), r.length ≤ g → expGo g i r = -1 := by
  intro r
  cases r with
  | nil => intro i _; rfl
  | cons n r => intro i h; unfold expGo; rw [if_neg (by simp at h; omega)]

theorem exp_step (g : Nat) (n : Int) (r : List Int) (i : Int) (h : badL g (n :: r) = false) : expGo g i (n :: r) = expGo g (i + 1) r := by
  conv => lhs; unfold expGo
  by_cases hg : g ≤ r.length
  · rw [if_pos hg, if_neg (by rw [h]; exact Bool.false_ne_true)]
  · rw [if_neg hg, exp_short g r _ (by omega)]

theorem exp_skip (g : Nat) (x : Int) (r : List Int) (hx : x.tmod 3 = 1) : ∀ (pre : List Int) (j : Int), pre.length ≤ g → expGo g j (pre ++ x :: r) = expGo g (j + pre.length + 1) r := by
  intro pre
  induction pre with
  | nil =>
    intro j _
    rw [List.nil_append, exp_step]
    · simp
    · simp [badL, hx]
  | cons y p ih =>
    intro j h
    simp only [List.length_cons] at h
    rw [List.cons_append, exp_step, ih _ (by omega)]
    · congr 1; simp only [List.length_cons]; omega
    · have : ((p ++ x :: r).take g).all (fun x => !(x.tmod 3 == 1)) = false := by
        rw [List.take_append, List.all_append, show g - p.length = (g - p.length - 1) + 1 by omega, List.take_succ_cons, List.all_cons, hx]
        simp
      simp only [badL, this, Bool.and_false]

/-- What stands behind a day: i the day, at the day of the default. -/
def okB (first at_ i : Int) (b : Br) : Prop := (if 0 ≤ at_ ∧ at_ ≤ i then b = (2, first + at_) else b.1 = 0 ∨ b.1 = 1) ∧ rightB b.1 b.2 = true
def Tale (first : Int) (g : Nat) (b : Br) (i : Int) (r : List Int) (at_ : Int) : Prop :=
  ∃ out, playGo g b (first + i) r = some out ∧ out.length = r.length ∧ ∀ (k : Nat) x, out[k]? = some x → okB first at_ (i + k) x

theorem Tale.nil {first : Int} {g : Nat} {b : Br} {i at_ : Int} : Tale first g b i [] at_ := ⟨[], rfl, rfl, fun k x h => by simp at h⟩
theorem Tale.cons {first : Int} {g : Nat} {b b' : Br} {i : Int} {n : Int} {r : List Int} {at_ : Int} (h : nextF b.1 b.2 (n.tmod 3) g (first + i) = (b', 0)) (hb : okB first at_ i b') (ht : Tale first g b' (i + 1) r at_) : Tale first g b i (n :: r) at_ := by
  obtain ⟨out, h1, h2, h3⟩ := ht
  refine ⟨b' :: out, ?_, by simp [h2], fun k x hx => ?_⟩
  · unfold playGo
    rw [h]
    rw [← Int.add_assoc] at h1
    simp [h1]
  · cases k with
    | zero => simp at hx; subst hx; simpa using hb
    | succ k =>
      have := h3 k x (by simpa using hx)
      rwa [show i + 1 + (k : Int) = i + ((k + 1 : Nat) : Int) by omega] at this

theorem exp_range (g : Nat) : ∀ (r : List Int) (i : Int), expGo g i r = -1 ∨ i + g ≤ expGo g i r ∧ expGo g i r < i + r.length := by
  intro r
  induction r with
  | nil => intro i; exact .inl rfl
  | cons n r ih =>
    intro i
    unfold expGo
    by_cases hg : g ≤ r.length
    · rw [if_pos hg]
      split
      · right; simp only [List.length_cons]; omega
      · have := ih (i + 1)
        simp only [List.length_cons]; omega
    · rw [if_neg hg]; exact .inl rfl

theorem tmod_cases (n : Int) (h : 0 ≤ n) : n.tmod 3 = 0 ∨ n.tmod 3 = 1 ∨ n.tmod 3 = 2 := by
  have h1 := Int.tmod_nonneg 3 h
  have h2 := Int.tmod_lt_of_pos n (b := 3) (by omega)
  omega

theorem next_of (s n k : Int) (g : Nat) (d : Int) (hr : rightB s n = true) (hk : 0 ≤ k ∧ k ≤ 2) (hg : g ≤ 1000) (hd : 0 ≤ d ∧ d ≤ 200000) (hn : n ≤ d) :
    nextF s n k g d = if s = 1 ∧ k = 1 then ((0, 0), 0) else if s = 0 ∧ k = 0 then (if g = 0 then ((2, d), 0) else ((1, d), 0)) else if s = 1 ∧ d - n ≥ g then ((2, d), 0) else ((s, n), 0) := by
  have hr' := (right_iff _ _).1 hr
  unfold nextF
  rw [if_neg (by simp [hr, dayB]; omega), if_neg (by simp; omega)]
  unfold next2 next3
  rw [wrap64 (d - n) (by omega) (by omega), wrap64 (d - d) (by omega) (by omega)]
  by_cases h1 : s = 1 ∧ k = 1
  · simp [h1]
  · rw [if_neg (by simpa using h1), if_neg h1]
    by_cases h2 : s = 0 ∧ k = 0
    · rw [if_pos (by simpa using h2), if_pos h2]
      by_cases h3 : g = 0
      · simp [h3]
      · rw [if_neg (by simp; omega), if_neg h3]
    · rw [if_neg (by simpa using h2), if_neg h2]
      by_cases h3 : s = 1 ∧ d - n ≥ g
      · rw [if_pos (by simpa using h3), if_pos h3]
      · rw [if_neg (by simpa using h3), if_neg h3]

/-- A default stays. -/
theorem tale2 (first : Int) (g : Nat) (at_ : Int) (hf : 0 ≤ first) (hg : g ≤ 1000) (ha : 0 ≤ at_) : ∀ (r : List Int) (i : Int), news8 r → at_ < i → first + i + r.length ≤ 200000 → Tale first g (2, first + at_) i r at_ := by
  intro r
  induction r with
  | nil => intro i _ _ _; exact .nil
  | cons n r ih =>
    intro i h8 hi hl
    simp only [List.length_cons] at hl
    have hn := tmod_cases n (h8 n (by simp)).1
    have hr : rightB 2 (first + at_) = true := (right_iff _ _).2 (by omega)
    refine Tale.cons (b' := (2, first + at_)) ?_ ⟨by rw [if_pos (by omega)], hr⟩ (ih (i + 1) (fun x hx => h8 x (by simp [hx])) (by omega) (by omega))
    dsimp only
    rw [next_of 2 _ _ g _ hr (by omega) hg (by omega) (by omega), if_neg (by omega), if_neg (by omega), if_neg (by omega)]

theorem tale (first : Int) (g : Nat) (hf : 0 ≤ first) (hg : g ≤ 1000) : ∀ (r : List Int), news8 r →
    (∀ i : Int, 0 ≤ i → first + i + r.length ≤ 200000 → Tale first g (0, 0) i r (expGo g i r)) ∧
    (∀ (j : Int) (n0 : Int) (mid : List Int), 0 ≤ j → n0.tmod 3 = 0 → (mid.all fun x => !(x.tmod 3 == 1)) = true → mid.length < g → first + j + 1 + mid.length + r.length ≤ 200000 →
      Tale first g (1, first + j) (j + 1 + mid.length) r (expGo g j (n0 :: (mid ++ r)))) := by
  have r0 : rightB 0 0 = true := by decide
  intro r
  induction r with
  | nil => intro _; exact ⟨fun i _ _ => .nil, fun j n0 mid _ _ _ hm _ => .nil⟩
  | cons x r ih =>
    intro h8
    have h8' : news8 r := fun y hy => h8 y (by simp [hy])
    obtain ⟨ihA, ihB⟩ := ih h8'
    have hx := tmod_cases x (h8 x (by simp)).1
    constructor
    · intro i hi hl
      simp only [List.length_cons] at hl
      by_cases hx0 : x.tmod 3 = 0
      · by_cases hg0 : g = 0
        · have he : expGo g i (x :: r) = i := by
            unfold expGo
            rw [if_pos (by omega), if_pos (by simp [badL, hx0, hg0])]
            omega
          rw [he]
          refine Tale.cons (b' := (2, first + i)) ?_ ⟨by rw [if_pos (by omega)], (right_iff _ _).2 (by omega)⟩ (tale2 first g i hf hg hi r (i + 1) h8' (by omega) (by omega))
          dsimp only
          rw [next_of 0 0 _ g _ r0 (by omega) hg (by omega) (by omega), if_neg (by omega), if_pos ⟨rfl, hx0⟩, if_pos hg0]
        · have := exp_range g (x :: r) i
          refine Tale.cons (b' := (1, first + i)) ?_ ⟨by rw [if_neg (by omega)]; exact .inr rfl, (right_iff _ _).2 (by omega)⟩ ?_
          · dsimp only
            rw [next_of 0 0 _ g _ r0 (by omega) hg (by omega) (by omega), if_neg (by omega), if_pos ⟨rfl, hx0⟩, if_neg hg0]
          · have := ihB i x [] hi hx0 rfl (by simp; omega) (by simp; omega)
            simpa using this
      · have he : expGo g i (x :: r) = expGo g (i + 1) r := exp_step g x r i (by simp [badL, hx0])
        rw [he]
        have := exp_range g r (i + 1)
        refine Tale.cons (b' := (0, 0)) ?_ ⟨by rw [if_neg (by omega)]; exact .inl rfl, r0⟩ (ihA (i + 1) (by omega) (by omega))
        dsimp only
        rw [next_of 0 0 _ g _ r0 (by omega) hg (by omega) (by omega), if_neg (by omega), if_neg (by omega), if_neg (by omega)]
    · intro j n0 mid hj hn0 hmid hm hl
      simp only [List.length_cons] at hl
      have hr1 : rightB 1 (first + j) = true := (right_iff _ _).2 (by omega)
      by_cases hx1 : x.tmod 3 = 1
      · have he : expGo g j (n0 :: (mid ++ x :: r)) = expGo g (j + 1 + mid.length + 1) r := by
          have := exp_skip g x r hx1 (n0 :: mid) j (by simp; omega)
          rw [List.cons_append] at this
          rw [this]
          congr 1
          simp only [List.length_cons]; omega
        rw [he]
        have := exp_range g r (j + 1 + mid.length + 1)
        refine Tale.cons (b' := (0, 0)) ?_ ⟨by rw [if_neg (by omega)]; exact .inl rfl, r0⟩ (ihA _ (by omega) (by omega))
        dsimp only
        rw [next_of 1 _ _ g _ hr1 (by omega) hg (by omega) (by omega), if_pos ⟨rfl, hx1⟩]
      · by_cases hgm : g = mid.length + 1
        · have he : expGo g j (n0 :: (mid ++ x :: r)) = j + g := by
            unfold expGo
            have h1 : g ≤ (mid ++ x :: r).length := by simp; omega
            rw [if_pos h1, if_pos]
            have h2 : (mid ++ x :: r).take g = mid ++ [x] := by
              rw [show mid ++ x :: r = (mid ++ [x]) ++ r by simp, List.take_left' (by simp; omega)]
            simp only [badL, h2, hn0, List.all_append, hmid]
            simp [hx1]
          rw [he]
          refine Tale.cons (b' := (2, first + (j + g))) ?_ ⟨by rw [if_pos (by omega)], (right_iff _ _).2 (by omega)⟩ (tale2 first g _ hf hg (by omega) r _ h8' (by omega) (by omega))
          dsimp only
          rw [next_of 1 _ _ g _ hr1 (by omega) hg (by omega) (by omega), if_neg (by omega), if_neg (by omega), if_pos (by omega)]
          rw [show first + (j + 1 + (mid.length : Int)) = first + (j + (g : Int)) by omega]
        · have he : n0 :: (mid ++ x :: r) = n0 :: ((mid ++ [x]) ++ r) := by simp
          rw [he]
          have := exp_range g (n0 :: ((mid ++ [x]) ++ r)) j
          refine Tale.cons (b' := (1, first + j)) ?_ ⟨by rw [if_neg (by omega)]; exact .inr rfl, hr1⟩ ?_
          · dsimp only
            rw [next_of 1 _ _ g _ hr1 (by omega) hg (by omega) (by omega), if_neg (by omega), if_neg (by omega), if_neg (by omega)]
          · have := ihB j n0 (mid ++ [x]) hj hn0 (by simp [hmid, hx1]) (by simp; omega) (by simp; omega)
            rwa [show j + 1 + ((mid ++ [x]).length : Int) = j + 1 + (mid.length : Int) + 1 by simp; omega] at this

theorem fallen_of (first at_ : Int) : ∀ (out : List Br) (i : Int), (∀ (k : Nat) x, out[k]? = some x → okB first at_ (i + k) x) → 0 ≤ i → (at_ = -1 ∨ i ≤ at_ ∧ at_ < i + out.length) → fallenGo i out = at_ := by
  intro out
  induction out with
  | nil => intro i _ _ h; simp at h; unfold fallenGo; omega
  | cons b r ih =>
    intro i h hi hr
    have hb := (h 0 b rfl).1
    simp only [List.length_cons, Int.natCast_zero, Int.add_zero] at hr hb
    unfold fallenGo
    by_cases ha : 0 ≤ at_ ∧ at_ ≤ i
    · rw [if_pos ha] at hb
      rw [hb, if_pos (by rfl)]
      omega
    · rw [if_neg ha] at hb
      rw [if_neg (by simp; omega)]
      refine ih (i + 1) (fun k x hx => ?_) (by omega) (by omega)
      have := h (k + 1) x (by simpa using hx)
      rwa [show i + ((k + 1 : Nat) : Int) = i + 1 + (k : Int) by omega] at this

/-- THE STORY: what becomes of a promise, day by day. -/
theorem story (first : Int) (g : Nat) (l : List Int) (hf : 0 ≤ first) (hg : g ≤ 1000) (h8 : news8 l) (hl : first + l.length ≤ 200000) :
    ∃ out, playGo g (0, 0) first l = some out ∧ out.length = l.length ∧ (∀ (k : Nat) x, out[k]? = some x → okB first (expGo g 0 l) k x) ∧ fallenGo 0 out = expGo g 0 l := by
  obtain ⟨out, h1, h2, h3⟩ := (tale first g hf hg l h8).1 0 (by omega) (by omega)
  have := exp_range g l 0
  rw [Int.add_zero] at h1
  simp only [Int.zero_add] at h3
  refine ⟨out, h1, h2, h3, fallen_of first _ out 0 (fun k x hx => by simpa using h3 k x hx) (by omega) ?_⟩
  rw [h2]; omega

/-! ### Longer graces, better news -/
inductive LeL : List Int → List Int → Prop
  | nil : LeL [] []
  | cons {x y : Int} {r s : List Int} (h : orderF x ≤ orderF y) (t : LeL r s) : LeL (x :: r) (y :: s)

theorem LeL.refl : ∀ l, LeL l l
  | [] => .nil
  | _ :: r => .cons (Int.le_refl _) (LeL.refl r)
theorem LeL.length {r s : List Int} (h : LeL r s) : r.length = s.length := by
  induction h with
  | nil => rfl
  | cons _ _ ih => simp [ih]
theorem order_0 (n : Int) (h : 0 ≤ n) : orderF n = 0 ↔ n.tmod 3 = 0 := by
  have := tmod_cases n h
  unfold orderF
  split
  · rename_i h; simp at h; omega
  · rename_i h; simp at h; split <;> omega
theorem order_2 (n : Int) (h : 0 ≤ n) : orderF n = 2 ↔ n.tmod 3 = 1 := by
  have := tmod_cases n h
  unfold orderF
  split
  · rename_i h; simp at h; omega
  · rename_i h; simp at h; split
    · rename_i h; simp at h; omega
    · rename_i h; simp at h; omega
theorem order_range (n : Int) : 0 ≤ orderF n ∧ orderF n ≤ 2 := by unfold orderF; split <;> (try split) <;> omega

theorem never_le {g g' : Nat} (hg : g ≤ g') {r s : List Int} (h : LeL r s) : news8 r → news8 s → ((s.take g').all fun x => !(x.tmod 3 == 1)) = true → ((r.take g).all fun x => !(x.tmod 3 == 1)) = true := by
  intro hr hs hb
  induction h generalizing g g' with
  | nil => simp
  | @cons x y r s hxy ht ih =>
    cases g with
    | zero => simp
    | succ g =>
      obtain ⟨g', rfl⟩ : ∃ k, g' = k + 1 := ⟨g' - 1, by omega⟩
      rw [List.take_succ_cons, List.all_cons, Bool.and_eq_true] at hb ⊢
      refine ⟨?_, ih (by omega) (fun z hz => hr z (by simp [hz])) (fun z hz => hs z (by simp [hz])) hb.2⟩
      have h1 := order_2 x (hr x (by simp)).1
      have h2 := order_2 y (hs y (by simp)).1
      have h3 := order_range y
      have h4 := order_range x
      have hb1 := hb.1
      simp at hb1 ⊢
      omega

theorem exp_mono {g g' : Nat} (hg : g ≤ g') {r s : List Int} (h : LeL r s) : news8 r → news8 s → ∀ i : Int, 0 ≤ i → expGo g' i s < 0 ∨ 0 ≤ expGo g i r ∧ expGo g i r ≤ expGo g' i s := by
  intro hr hs
  induction h with
  | nil => intro i _; left; show (-1 : Int) < 0; omega
  | @cons x y r s hxy ht ih =>
    intro i hi
    have ih' := ih (fun z hz => hr z (by simp [hz])) (fun z hz => hs z (by simp [hz])) (i + 1) (by omega)
    have hlen := ht.length
    by_cases hs' : g' ≤ s.length
    · by_cases hb : badL g' (y :: s) = true
      · have hbr : badL g (x :: r) = true := by
          simp only [badL, Bool.and_eq_true] at hb ⊢
          refine ⟨?_, never_le hg ht (fun z hz => hr z (by simp [hz])) (fun z hz => hs z (by simp [hz])) hb.2⟩
          have h1 := order_0 x (hr x (by simp)).1
          have h2 := order_0 y (hs y (by simp)).1
          have h3 := order_range x
          have hb1 := hb.1
          simp at hb1 ⊢
          omega
        unfold expGo
        rw [if_pos hs', if_pos hb, if_pos (by omega), if_pos hbr]
        omega
      · rw [exp_step g' y s i (by simpa using hb)]
        have hr0 := exp_range g r (i + 1)
        have hr1 := exp_range g' s (i + 1)
        rcases ih' with h | h
        · exact .inl h
        · by_cases hbr : badL g (x :: r) = true
          · by_cases hgr : g ≤ r.length
            · right
              have : expGo g i (x :: r) = i + g := by unfold expGo; rw [if_pos hgr, if_pos hbr]
              rw [this]
              omega
            · rw [exp_short g r _ (by omega)] at h
              omega
          · rw [exp_step g x r i (by simpa using hbr)]
            exact .inr h
    · left
      unfold expGo
      rw [if_neg hs']
      omega
end Go.Mini
