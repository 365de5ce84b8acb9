/- Loops and calls, for evaluation. -/
import Derived.Test.YtehjaghpfnncoaaMiniF3
set_option linter.unusedSimpArgs false
set_option linter.unusedVariables false
namespace Go.Mini
open Go

/-- Behind a round of a loop. -/
def loopK {ι : Type} (T : Tab) (J : ι → St → Prop) (m : ι → Nat) (i : ι) (K : MExit → St → Prop) (k : List Todo) : MExit → St → Prop
  | .normal, st => ∃ i', m i' < m i ∧ J i' st
  | .exit id, st => kont T K k (.exit id) st
  | .ret, st => kont T K k .ret st

@[go_sem] theorem loopK_exit {ι : Type} (T : Tab) (J : ι → St → Prop) (m : ι → Nat) (i : ι) (K : MExit → St → Prop) (k : List Todo) (id : Nat) (st : St) : loopK T J m i K k (.exit id) st = kont T K k (.exit id) st := _root_.id rfl
@[go_sem] theorem loopK_ret {ι : Type} (T : Tab) (J : ι → St → Prop) (m : ι → Nat) (i : ι) (K : MExit → St → Prop) (k : List Todo) (st : St) : loopK T J m i K k .ret st = kont T K k .ret st := _root_.id rfl
@[go_sem] theorem loopK_normal {ι : Type} (T : Tab) (J : ι → St → Prop) (m : ι → Nat) (i : ι) (K : MExit → St → Prop) (k : List Todo) (st : St) : loopK T J m i K k .normal st = ∃ i', m i' < m i ∧ J i' st := _root_.id rfl

open Classical in
theorem wp_loop_intro {ι : Type} {T : Tab} {K : MExit → St → Prop} {k : List Todo} {st : St} {c : MCode} (J : ι → St → Prop) (m : ι → Nat) (i0 : ι) (h0 : J i0 st) (h : ∀ i st, J i st → wp T c (kont T (loopK T J m i K k) []) st) :
    wp T (.loop c) (kont T K k) st := by
  have least : ∀ st, (∃ i, J i st) → ∃ i, J i st ∧ ∀ j, J j st → m i ≤ m j := by
    intro st ⟨i, hi⟩
    have : ∀ n i, m i = n → J i st → ∃ i, J i st ∧ ∀ j, J j st → m i ≤ m j := by
      intro n
      induction n using Nat.strongRecOn with
      | _ n ih =>
        intro i hn hi
        by_cases hx : ∃ j, J j st ∧ m j < m i
        · obtain ⟨j, hj, hlt⟩ := hx
          exact ih (m j) (by omega) j rfl hj
        · refine ⟨i, hi, fun j hj => ?_⟩
          rcases Nat.lt_or_ge (m j) (m i) with h' | h'
          · exact absurd ⟨j, hj, h'⟩ hx
          · exact h'
    exact this _ i rfl hi
  refine ⟨fun st => ∃ i, J i st, fun st => if hx : ∃ i, J i st then m (Classical.choose (least st hx)) else 0, ⟨i0, h0⟩, fun st hst => ?_⟩
  have hsp := Classical.choose_spec (least st hst)
  have := h _ st hsp.1
  have hk : kont T (loopK T J m (Classical.choose (least st hst)) K k) [] = fun e st' => match e with
      | .normal => (∃ i, J i st') ∧ (if hx : ∃ i, J i st' then m (Classical.choose (least st' hx)) else 0) < (if hx : ∃ i, J i st then m (Classical.choose (least st hx)) else 0)
      | e => kont T K k e st' := by
    funext e st'
    cases e with
    | normal =>
      simp only [kont_nil, loopK_normal]
      apply propext
      constructor
      · rintro ⟨i', hlt, hj⟩
        have hex : ∃ i, J i st' := ⟨i', hj⟩
        refine ⟨hex, ?_⟩
        rw [dif_pos hex, dif_pos hst]
        have := (Classical.choose_spec (least st' hex)).2 i' hj
        omega
      · rintro ⟨hex, hlt⟩
        rw [dif_pos hex, dif_pos hst] at hlt
        exact ⟨_, hlt, (Classical.choose_spec (least st' hex)).1⟩
    | exit id => rfl
    | ret => rfl
  rw [hk] at this
  exact this

theorem mkT_eq {PT : FuncId → Option (List Data → Option PRes)} {f : FuncId} {F : List Data → Option PRes} (h : PT f = some F) (args : List MV) (mem : Mem) : mkT PT f args mem = mkE1 F (args.mapM (toD 6 emp)) (args.mapM (toD 6 mem)) := by
  unfold mkT
  rw [h]
  rfl

section
variable {F : List Data → Option PRes} {mem : Mem} {st : St} {res : List MRes}
@[go_sem] theorem mkE1_some (ds : List Data) (x : Option (List Data)) : mkE1 F (some ds) x = (F ds).map effOf := _root_.id rfl
@[go_sem] theorem mkE1_none (x : Option (List Data)) : mkE1 F none x = mkE2 F x := _root_.id rfl
@[go_sem] theorem mkE2_some (ds : List Data) : mkE2 F (some ds) = (F ds).bind lent := _root_.id rfl
@[go_sem] theorem effOf_same (r : Data) : effOf (.same r) = .same r := _root_.id rfl
@[go_sem] theorem effOf_own (sz : Nat) (es : List (List Data)) : effOf (.own sz es) = .own sz es := _root_.id rfl
@[go_sem] theorem lent_same (r : Data) : lent (.same r) = if scalar r = true then some (.same r) else none := _root_.id rfl
@[go_sem] theorem toD_dat (n : Nat) (d : Data) : toD n mem (.dat d) = some d := by cases n <;> rfl
@[go_sem] theorem toD_nil (n : Nat) : toD n mem .nil = some (.sl []) := by cases n <;> rfl
@[go_sem] theorem toD_agg (n : Nat) (cs : List MV) : toD (n + 1) mem (.agg cs) = (cs.mapM (toD n mem)).map .agg := _root_.id rfl
@[go_sem] theorem toD_tup (n : Nat) (cs : List MV) : toD (n + 1) mem (.tup cs) = (cs.mapM (toD n mem)).map .tup := _root_.id rfl
@[go_sem] theorem toD_clo (n : Nat) (f : FuncId) (cs : List MV) : toD (n + 1) mem (.clo f cs) = (cs.mapM (toD n mem)).map (.fn f) := _root_.id rfl
@[go_sem] theorem endS_exit (r : PRes) (id : Nat) : endS res r (.exit id) st = False := _root_.id rfl
@[go_sem] theorem endS_ret (r : PRes) : endS res r .ret st = endR res r st := _root_.id rfl
@[go_sem] theorem endS_normal (r : PRes) : endS res r .normal st = endR res r st := _root_.id rfl
@[go_sem] theorem endR_same (r : Data) : endR res (.same r) st = ((resAll st res).bind (toD 6 st.mem) = some r) := _root_.id rfl
@[go_sem] theorem endR_own (sz : Nat) (es : List (List Data)) : endR res (.own sz es) st = ((resAll st res).bind (ownD sz st.mem) = some es) := _root_.id rfl
end

/-! ### Splitting -/
@[go_sem] theorem guardM_true (x : Bool) : guardM (.dat (.bool x)) true = some x := by cases x <;> rfl
@[go_sem] theorem guardM_false (x : Bool) : guardM (.dat (.bool x)) false = some (!x) := by cases x <;> rfl
attribute [go_sem] List.map_cons List.map_nil List.getElem?_cons_zero List.getElem?_cons_succ List.length_cons List.length_nil List.drop_zero List.take_succ_cons List.take_zero Option.bind_some Option.map_some Option.map_none Nat.zero_add
  List.mapM_cons List.mapM_nil Option.pure_def Option.bind_eq_bind List.nil_append List.cons_append List.drop_succ_cons List.drop_nil List.take_nil Bool.not_true Bool.not_false Bool.or_true Bool.true_or Bool.or_false Bool.false_or Bool.and_true Bool.true_and Bool.and_false Bool.false_and List.all_cons List.all_nil true_and and_true Bool.false_eq_true bne

section
variable {T : Tab} {K : MExit → St → Prop} {k : List Todo} {st : St}
theorem wpG_not {x : Bool} {i : MI} {r : List MI} (h1 : x = false → wpG T K k (some true) i r st) (h2 : x = true → wpG T K k (some false) i r st) : wpG T K k (some (!x)) i r st := by
  cases x
  · exact h1 rfl
  · exact h2 rfl
theorem wpG_yes {x : Bool} {i : MI} {r : List MI} (h1 : x = true → wpG T K k (some true) i r st) (h2 : x = false → wpG T K k (some false) i r st) : wpG T K k (some x) i r st := by
  cases x
  · exact h2 rfl
  · exact h1 rfl
theorem wpGD_not {x : Bool} {n : Nat} {i : MI} {r : List MI} {c : List (List Nat)} {rec : Rec} (h1 : x = false → wpGD T K k n (some true) i r c rec st) (h2 : x = true → wpGD T K k n (some false) i r c rec st) : wpGD T K k n (some (!x)) i r c rec st := by
  cases x
  · exact h1 rfl
  · exact h2 rfl
theorem wpGD_yes {x : Bool} {n : Nat} {i : MI} {r : List MI} {c : List (List Nat)} {rec : Rec} (h1 : x = true → wpGD T K k n (some true) i r c rec st) (h2 : x = false → wpGD T K k n (some false) i r c rec st) : wpGD T K k n (some x) i r c rec st := by
  cases x
  · exact h2 rfl
  · exact h1 rfl
theorem wpB_not {x : Bool} {a b : MCode} (h1 : x = false → wpB T K k (.dat (.bool true)) a b st) (h2 : x = true → wpB T K k (.dat (.bool false)) a b st) : wpB T K k (.dat (.bool (!x))) a b st := by
  cases x
  · exact h1 rfl
  · exact h2 rfl
theorem wpB_yes {x : Bool} {a b : MCode} (h1 : x = true → wpB T K k (.dat (.bool true)) a b st) (h2 : x = false → wpB T K k (.dat (.bool false)) a b st) : wpB T K k (.dat (.bool x)) a b st := by
  cases x
  · exact h2 rfl
  · exact h1 rfl
end

end Go.Mini
