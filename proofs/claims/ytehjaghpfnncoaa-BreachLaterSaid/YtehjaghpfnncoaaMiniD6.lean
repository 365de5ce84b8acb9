/- Every order of an open region, from the order of the text. -/
import Derived.Test.YtehjaghpfnncoaaMiniD5
set_option linter.unusedSimpArgs false
set_option linter.unusedVariables false
namespace Go.Mini
open Go
variable {T : Tab} {conf : Nat → Nat → Bool} {ops : Array Oper} {l : List MI} {K : St → Prop}

/-- Whatever order is picked. -/
def wpAnyM (T : Tab) (conf : Nat → Nat → Bool) (ops : Array Oper) (l : List MI) (K : St → Prop) : Nat → Array Bool → Rec → St → Prop
  | 0, listed, _, st => Region.ready .any ops listed = [] ∧ K st
  | fuel + 1, listed, rec, st => (Region.ready .any ops listed = [] → K st) ∧
    ∀ i ∈ Region.ready .any ops listed, ∃ x rec' st', l[i]? = some x ∧ Exec T conf i x rec st rec' st' ∧ wpAnyM T conf ops l K fuel (listed.setIfInBounds i true) rec' st'

/-- What has come up waited for what has come up. -/
def Closed (ops : Array Oper) (listed : Array Bool) : Prop :=
  listed.size = ops.size ∧ ∀ (j : Nat) (o : Oper), ops[j]? = some o → listed.getD j false = true → ∀ e ∈ o.after, Region.binds .any e = true → listed.getD e.on false = true

theorem Closed.set {listed : Array Bool} {i : Nat} (h : Closed ops listed) (hi : i ∈ Region.ready .any ops listed) : Closed ops (listed.setIfInBounds i true) := by
  refine ⟨by simp [h.1], fun j o hj hl e he hb => ?_⟩
  by_cases hji : j = i
  · subst hji
    obtain ⟨_, o', ho, hall⟩ := mem_ready.1 hi
    rw [hj] at ho
    cases ho
    exact getD_set_true (hall e he hb)
  · rw [getD_set_ne false (Ne.symm hji)] at hl
    exact getD_set_true (h.2 j o hj hl e he hb)

/-- Any two operations: they do not come up side by side; or they may change places. -/
def Pairs (conf : Nat → Nat → Bool) (ops : Array Oper) (l : List MI) : Prop :=
  ∀ (i j : Nat) (x y : MI), i ≠ j → l[i]? = some x → l[j]? = some y →
    (∀ listed, Closed ops listed → i ∈ Region.ready .any ops listed → j ∈ Region.ready .any ops listed → False) ∨ (apartM x y = true ∧ Passes conf i j x y)

theorem exec_rec {i k : Nat} {x : MI} {rec rec' : Rec} {st st' : St} (h : Exec T conf i x rec st rec' st') (hk : k ≠ i) : rec' k = rec k := by
  rcases h with ⟨_, rfl, _⟩ | ⟨_, _, _, _, _, rfl, _⟩
  · rfl
  · simp [updR, hk]

theorem getD_set_false {listed : Array Bool} {i k : Nat} (h : (listed.setIfInBounds i true).getD k true = false) : k ≠ i ∧ listed.getD k true = false := by
  by_cases hki : i = k
  · subst hki
    exfalso
    by_cases hlt : i < listed.size
    · simp [hlt] at h
    · have : (listed.setIfInBounds i true).size ≤ i := by simp; omega
      rw [Array.getD_eq_getD_getElem?, Array.getElem?_eq_none this] at h
      simp at h
  · rw [getD_set_ne true hki] at h
    exact ⟨fun h' => hki h'.symm, h⟩

/-- An operation that may come up may come up first. -/
theorem wpAnyM_first (hp : Pairs conf ops l) (hsym : ∀ a b, conf a b = conf b a) {i : Nat} {x : MI} (hi : l[i]? = some x) : ∀ (fuel : Nat) (listed : Array Bool) (rec : Rec) (st : St) (rec1 : Rec) (st1 : St),
    Closed ops listed → (∀ k, listed.getD k true = false → rec k = none) → i ∈ Region.ready .any ops listed → Exec T conf i x rec st rec1 st1 →
    wpAnyM T conf ops l K fuel (listed.setIfInBounds i true) rec1 st1 → wpAnyM T conf ops l K (fuel + 1) listed rec st := by
  intro fuel
  induction fuel with
  | zero =>
    intro listed rec st rec1 st1 hcl hrec hr he H
    refine ⟨fun h => (by rw [h] at hr; cases hr), fun j hj => ?_⟩
    by_cases hji : j = i
    · subst hji; exact ⟨x, rec1, st1, hi, he, H⟩
    · have := ready_mono hj hji
      rw [H.1] at this
      cases this
  | succ fuel ih =>
    intro listed rec st rec1 st1 hcl hrec hr he H
    refine ⟨fun h => (by rw [h] at hr; cases hr), fun j hj => ?_⟩
    by_cases hji : j = i
    · subst hji; exact ⟨x, rec1, st1, hi, he, H⟩
    · obtain ⟨y, rec2, st2, hy, hE, hK⟩ := H.2 j (ready_mono hj hji)
      rcases hp i j x y (Ne.symm hji) hi hy with hno | ⟨hap, hpass⟩
      · exact (hno listed hcl hr hj).elim
      · obtain ⟨recj, stj, h1, h2⟩ := Exec.comm (Ne.symm hji) hap hpass hsym (hrec i (mem_ready.1 hr).1) he hE
        refine ⟨y, recj, stj, hy, h1, ih _ recj stj rec2 st2 (hcl.set hj) (fun k hk => ?_) (ready_mono hr (Ne.symm hji)) h2 ?_⟩
        · obtain ⟨h3, h4⟩ := getD_set_false hk
          rw [exec_rec h1 h3]
          exact hrec k h4
        · rw [Array.setIfInBounds_comm _ _ hji]
          exact hK

/-! ### For whom an operation waits -/
theorem ancL_prefix : ∀ (r : List Oper) (acc : List Nat) (k : Nat), k < acc.length → (ancL r acc).getD k 0 = acc.getD k 0
  | [], acc, k, _ => rfl
  | o :: r, acc, k, hk => by
    simp only [ancL]
    rw [ancL_prefix r _ k (by simp; omega)]
    simp only [List.getD_eq_getElem?_getD]
    rw [List.getElem?_append_left hk]

theorem ancL_length : ∀ (r : List Oper) (acc : List Nat), (ancL r acc).length = acc.length + r.length
  | [], acc => by simp [ancL]
  | o :: r, acc => by
    simp only [ancL]
    rw [ancL_length r]
    simp
    omega

theorem fold_bit {es : List Edge} {acc : List Nat} {i : Nat} : ∀ (s : Nat), (es.foldl (fun s e => if Region.binds .any e = true then s ||| (2 ^ e.on ||| acc.getD e.on 0) else s) s).testBit i = true →
    s.testBit i = true ∨ ∃ e ∈ es, Region.binds .any e = true ∧ (e.on = i ∨ (acc.getD e.on 0).testBit i = true) := by
  induction es with
  | nil => exact fun s h => .inl h
  | cons e es ih =>
    intro s h
    rw [List.foldl_cons] at h
    rcases ih _ h with h1 | ⟨e', h1, h2⟩
    · split at h1
      · rename_i hb
        rw [Nat.testBit_or, Nat.testBit_or, Bool.or_eq_true, Bool.or_eq_true] at h1
        rcases h1 with h1 | h1 | h1
        · exact .inl h1
        · rw [Nat.testBit_two_pow] at h1
          exact .inr ⟨e, by simp, hb, .inl (by simpa using h1)⟩
        · exact .inr ⟨e, by simp, hb, .inr h1⟩
      · exact .inl h1
    · exact .inr ⟨e', by simp [h1], h2⟩

theorem ancL_spec : ∀ (r : List Oper) (acc : List Nat) (t : Nat) (o : Oper), r[t]? = some o → ∀ i, ((ancL r acc).getD (acc.length + t) 0).testBit i = true →
    ∃ e ∈ o.after.toList, Region.binds .any e = true ∧ (e.on = i ∨ (e.on < acc.length + t ∧ ((ancL r acc).getD e.on 0).testBit i = true))
  | [], _, _, _, h, _, _ => by simp at h
  | o' :: r, acc, 0, o, h, i, hb => by
    simp at h
    subst h
    simp only [ancL, Nat.add_zero] at hb ⊢
    rw [ancL_prefix r _ _ (by simp)] at hb
    simp only [List.getD_eq_getElem?_getD] at hb
    rw [List.getElem?_append_right (Nat.le_refl _)] at hb
    simp only [Nat.sub_self, List.getElem?_cons_zero, Option.getD_some] at hb
    rcases fold_bit (acc := acc) 0 (by simpa only [List.getD_eq_getElem?_getD] using hb) with h1 | ⟨e, h1, h2, h3⟩
    · simp at h1
    · refine ⟨e, h1, h2, h3.imp id fun h => ?_⟩
      have hlt : e.on < acc.length := by
        rcases Nat.lt_or_ge e.on acc.length with h' | h'
        · exact h'
        · rw [List.getD_eq_getElem?_getD, List.getElem?_eq_none h'] at h
          simp at h
      refine ⟨hlt, ?_⟩
      rw [ancL_prefix r _ _ (by simp; omega), List.getD_eq_getElem?_getD, List.getElem?_append_left hlt, ← List.getD_eq_getElem?_getD]
      exact h
  | o' :: r, acc, t + 1, o, h, i, hb => by
    have h' : r[t]? = some o := by simpa using h
    simp only [ancL] at hb ⊢
    have := ancL_spec r (acc ++ [o'.after.toList.foldl (fun s e => if Region.binds .any e = true then s ||| (2 ^ e.on ||| acc.getD e.on 0) else s) 0]) t o h' i (by
      rw [List.length_append, List.length_singleton, Nat.add_assoc, Nat.add_comm 1 t]; exact hb)
    obtain ⟨e, h1, h2, h3⟩ := this
    refine ⟨e, h1, h2, h3.imp id fun h => ⟨by have := h.1; simp at this; omega, h.2⟩⟩

theorem anc_listed {listed : Array Bool} (hcl : Closed ops listed) : ∀ (j : Nat) (o : Oper), ops[j]? = some o → (∀ e ∈ o.after, Region.binds .any e = true → listed.getD e.on false = true) →
    ∀ i, ((ancL ops.toList []).getD j 0).testBit i = true → listed.getD i false = true := by
  intro j
  induction j using Nat.strongRecOn with
  | _ j ih =>
    intro o ho hall i hi
    obtain ⟨e, he, hb, h⟩ := ancL_spec ops.toList [] j o (by simpa using ho) i (by simpa using hi)
    have hl := hall e (by simpa using he) hb
    rcases h with rfl | ⟨hlt, hbit⟩
    · exact hl
    · have hsz : e.on < ops.size := by
        rw [← hcl.1]
        rcases Nat.lt_or_ge e.on listed.size with h' | h'
        · exact h'
        · simp [Array.getElem?_eq_none h'] at hl
      have ho' : ops[e.on]? = some ops[e.on] := Array.getElem?_eq_getElem hsz
      exact ih e.on (by simpa using hlt) _ ho' (hcl.2 e.on _ ho' hl) i hbit

/-! ### The checks of the text -/
theorem drawRows_spec : ∀ (cs pre : List MI) (as : List Nat), drawRows pre cs as = true → ∀ (t : Nat) (y : MI), cs[t]? = some y → ∀ (i : Nat) (x : MI), (pre ++ cs)[i]? = some x → i < pre.length + t →
    (as.getD t 0).testBit i = true ∨ apartM x y = true
  | [], _, _, _, _, _, h, _, _, _, _ => by simp at h
  | _ :: _, _, [], h, _, _, _, _, _, _, _ => by simp [drawRows] at h
  | c :: cs, pre, a :: as, h, 0, y, hy, i, x, hx, hlt => by
    simp only [drawRows, Bool.and_eq_true, List.all_eq_true] at h
    simp at hy
    subst hy
    have hi : i < pre.length := by simpa using hlt
    rw [List.getElem?_append_left hi] at hx
    have := h.1 (x, i) (by rw [List.mem_zipIdx_iff_getElem?]; exact hx)
    simpa using this
  | c :: cs, pre, a :: as, h, t + 1, y, hy, i, x, hx, hlt => by
    simp only [drawRows, Bool.and_eq_true] at h
    have := drawRows_spec cs (pre ++ [c]) as h.2 t y (by simpa using hy) i x (by simpa using hx) (by simp; omega)
    simpa using this

theorem chkOf_spec : ∀ (cs pre : List MI) (as : List Nat) (t : Nat) (y : MI), cs[t]? = some y → ∀ (i : Nat) (x : MI), (pre ++ cs)[i]? = some x → i < pre.length + t →
    (as.getD t 0).testBit i = true ∨ mayPass (classOf x.op) (classOf y.op) = true ∨ i ∈ (chkOf pre cs as).getD t []
  | [], _, _, _, _, h, _, _, _, _ => by simp at h
  | c :: cs, pre, as, 0, y, hy, i, x, hx, hlt => by
    simp at hy
    subst hy
    have hi : i < pre.length := by simpa using hlt
    rw [List.getElem?_append_left hi] at hx
    have hmem : (x, i) ∈ pre.zipIdx := by rw [List.mem_zipIdx_iff_getElem?]; exact hx
    by_cases h1 : (as.getD 0 0).testBit i = true
    · exact .inl h1
    · by_cases h2 : mayPass (classOf x.op) (classOf c.op) = true
      · exact .inr (.inl h2)
      · refine .inr (.inr ?_)
        simp only [chkOf, List.getD_eq_getElem?_getD, List.getElem?_cons_zero, Option.getD_some]
        refine List.mem_map.2 ⟨(x, i), List.mem_filter.2 ⟨hmem, ?_⟩, rfl⟩
        have h3 : as.headD 0 = as.getD 0 0 := by cases as <;> rfl
        simp only [h3]
        rw [List.getD_eq_getElem?_getD] at h1
        simp [h1, h2]
  | c :: cs, pre, as, t + 1, y, hy, i, x, hx, hlt => by
    have := chkOf_spec cs (pre ++ [c]) as.tail t y (by simpa using hy) i x (by simpa using hx) (by simp; omega)
    have h3 : as.tail.getD t 0 = as.getD (t + 1) 0 := by cases as <;> simp
    rw [h3] at this
    simpa [chkOf] using this

/-- Which operations are looked at against each other. -/
def confOf (c : List (List Nat)) (i j : Nat) : Bool := if i < j then (c.getD j []).contains i else if j < i then (c.getD i []).contains j else false

theorem confOf_symm (c : List (List Nat)) (i j : Nat) : confOf c i j = confOf c j i := by
  unfold confOf
  by_cases h1 : i < j
  · simp [h1, Nat.lt_asymm h1]
  · by_cases h2 : j < i
    · simp [h2, Nat.lt_asymm h2]
    · simp [h1, h2]

theorem apartM_symm {x y : MI} (h : apartM x y = true) : apartM y x = true := by
  obtain ⟨h1, h2, h3⟩ := apartM_spec h
  unfold apartM
  rw [Bool.and_eq_true]
  constructor
  · cases hy : y.dst with
    | none => rfl
    | some d =>
      have a := h3 d hy
      have b : x.dst ≠ some d := fun hx => h2 d hx hy
      simp [a, b]
  · cases hx : x.dst with
    | none => rfl
    | some d =>
      have a := h1 d hx
      simp [a]

theorem mayPass_symm (a b : Nat) : mayPass a b = mayPass b a := by
  unfold mayPass
  cases (a == 0) <;> cases (b == 0) <;> cases (a == 1) <;> cases (b == 1) <;> rfl

theorem pairs_of (hd : drawOK ops l = true) : Pairs (confOf (chkOf [] l (ancL ops.toList []))) ops l := by
  have key : ∀ (i j : Nat) (x y : MI), i < j → l[i]? = some x → l[j]? = some y →
      (∀ listed, Closed ops listed → i ∈ Region.ready .any ops listed → j ∈ Region.ready .any ops listed → False) ∨
      (apartM x y = true ∧ (confOf (chkOf [] l (ancL ops.toList [])) i j = true ∨ mayPass (classOf x.op) (classOf y.op) = true)) := by
    intro i j x y hij hx hy
    unfold drawOK at hd
    rw [Bool.and_eq_true] at hd
    by_cases hb : ((ancL ops.toList []).getD j 0).testBit i = true
    · refine .inl fun listed hcl hi hj => ?_
      obtain ⟨_, o, ho, hall⟩ := mem_ready.1 hj
      have h1 := anc_listed hcl j o ho hall i hb
      have h0 := (mem_ready.1 hi).1
      rcases Nat.lt_or_ge i listed.size with h' | h'
      · simp [h'] at h0 h1; rw [h0] at h1; cases h1
      · simp [Array.getElem?_eq_none h'] at h1
    · refine .inr ⟨?_, ?_⟩
      · rcases drawRows_spec l [] _ hd.2 j y hy i x (by simpa using hx) (by simpa using hij) with h | h
        · exact absurd h hb
        · exact h
      · rcases chkOf_spec l [] (ancL ops.toList []) j y hy i x (by simpa using hx) (by simpa using hij) with h | h | h
        · exact absurd h hb
        · exact .inr h
        · exact .inl (by unfold confOf; rw [if_pos hij]; exact List.contains_iff_mem.2 h)
  intro i j x y hij hx hy
  rcases Nat.lt_or_gt_of_ne hij with h | h
  · exact key i j x y h hx hy
  · rcases key j i y x h hy hx with h1 | ⟨h1, h2⟩
    · exact .inl fun listed hcl hi hj => h1 listed hcl hj hi
    · refine .inr ⟨apartM_symm h1, ?_⟩
      rcases h2 with h2 | h2
      · exact .inl (by rw [confOf_symm]; exact h2)
      · exact .inr (by rw [mayPass_symm]; exact h2)

end Go.Mini
