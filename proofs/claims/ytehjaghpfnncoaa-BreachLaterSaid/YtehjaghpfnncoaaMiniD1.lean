/- What functions do, and a call of one. -/
import Derived.Test.YtehjaghpfnncoaaMiniC9
import Derived.Test.YtehjaghpfnncoaaMiniE
set_option linter.unusedSimpArgs false
set_option linter.unusedVariables false
namespace Go.Mini
open Go
variable {P : Program} {A : Nat → Prop} {w : World} {B : Lay} {mem : Mem}

/-- A slice of a callee's own making. -/
def OwnRes (w w' : World) (O : Nat → Prop) (sz : Nat) (es : List (List Data)) (v : Value) : Prop :=
  (∀ e ∈ es, e.length = sz) ∧ ∃ a cap, v = .slice a es.length cap ∧ es.length ≤ cap ∧ cap ≤ maxLen ∧
    (cap = 0 ∨ ∃ b vs T, a = some ⟨b, 0, none⟩ ∧ w.heap.size ≤ b ∧ w'.heap[b]? = some (.cells vs T (0, 0)) ∧ cap * sz ≤ vs.size ∧
      ∀ (i : Nat) (d : Data), es.flatten[i]? = some d → ∃ u, vs[i]? = some u ∧ Den w' (fun b' => O b' ∨ b' = b) d u)

def EffOK (P : Program) (f : FuncId) (vs : List Value) (A : Nat → Prop) (w : World) (B : Lay) : Eff → Prop
  | .same r => Calls P f vs.toArray w fun e w' => ∃ v, e = .returned v ∧ Fr (fun _ => False) w w' ∧ Den w' (OA A B) r v
  | .own sz es => Calls P f vs.toArray w fun e w' => ∃ v, e = .returned v ∧ Fr (fun _ => False) w w' ∧ OwnRes w w' (OA A B) sz es v
  | .rel R => Calls P f vs.toArray w fun e w' => ∃ v r mem' B', e = .returned v ∧ StepOK A w B w' B' mem' ∧ VR w' (OA A B') B' r v ∧ R r mem'

def Real (P : Program) (f : FuncId) : Prop := ∃ fn c, P.funcs[f]? = some fn ∧ fn.body = some c ∧ (fn.name == "runtime.NumGoroutine") = false

def TabOK (P : Program) (T : Tab) : Prop := ∀ f args mem eff, T f args mem = some eff → Real P f ∧
  ∀ A w B vs, MemRel A w B mem → RL w (OA A B) B args vs → EffOK P f vs A w B eff

theorem call_enter {f : FuncId} (h : Real P f) (args : Array Value) : (callFunc f args).run P w = .ok (.enter f args) w := by
  obtain ⟨fn, c, hf, hb, hn⟩ := h
  have h1 : fn.name ≠ "runtime.NumGoroutine" := by simpa using hn
  simp [callFunc, hf, h1, hb]

theorem Den.less {w : World} {O O' : Nat → Prop} (h : ∀ b, O' b → O b) {d : Data} {v : Value} (hd : Den w O d v) : Den w O' d v :=
  hd.keep (Nat.le_refl _) fun b _ hb => ⟨rfl, fun hx => hb (h b hx)⟩

theorem OwnRes.den {w w' : World} {O : Nat → Prop} {sz : Nat} {es : List (List Data)} {v : Value} (hlt : ∀ b, O b → b < w.heap.size) (h : OwnRes w w' O sz es v) : Den w' O (.sl es) v := by
  obtain ⟨he, a, cap, rfl, h1, h2, h3⟩ := h
  rcases h3 with rfl | ⟨b, vs, T, rfl, h4, h5, h6, h7⟩
  · have : es = [] := List.eq_nil_of_length_eq_zero (by omega)
    subst this
    exact .sl0
  · have hbl : b < w'.heap.size := (Array.getElem?_eq_some_iff.1 h5).1
    refine .sl (sz := sz) (fun i => vs.getD i undef) h1 (by omega) hbl (fun ho => by have := hlt b ho; omega) he (fun i hi => ?_) fun i d hd => ?_
    · have hlt : i < es.flatten.length := by rw [flatten_length he]; exact hi
      obtain ⟨u, hu, _⟩ := h7 i _ (List.getElem?_eq_getElem hlt)
      rw [cell_of_row w' b _ vs T (0, 0) h5, Nat.zero_add, Array.getD_eq_getD_getElem?, hu]
      rfl
    · obtain ⟨u, hu, hd⟩ := h7 i d hd
      rw [Array.getD_eq_getD_getElem?, hu]
      exact hd.less fun b h => .inl h

/-- A block that a callee has made is taken over. -/
theorem adopt_ok {w' : World} {sz : Nat} {es : List (List Data)} {v : Value} (k : Key) (hmr : MemRel A w B mem) (f : Fr (fun _ => False) w w') (h : OwnRes w w' (OA A B) sz es v) :
    ∃ B', StepOK A w B w' B' (updM mem k (nextG mem k) (es.flatten.map .dat)) ∧ VR w' (OA A B') B' (.ref k (nextG mem k) sz 0 es.length) v := by
  obtain ⟨he, a, cap, rfl, h1, h2, h3⟩ := h
  have still := StepOK.still hmr f
  rcases h3 with rfl | ⟨b, vs, T, rfl, h4, h5, h6, h7⟩
  · have : es = [] := List.eq_nil_of_length_eq_zero (by omega)
    subst this
    exact ⟨_, still.trans (StepOK.virtual still.mr k), .ref (updB_same _ _ _) (Nat.le_refl _) ⟨_, 0, rfl, h1, h2, .inl rfl⟩⟩
  · have hbl : b < w'.heap.size := (Array.getElem?_eq_some_iff.1 h5).1
    have hblk : ∀ b', (⟨nextG mem k, some b, vs.size⟩ : Bk).blk = some b' → w.heap.size ≤ b' ∨ ∃ e, B k = some e ∧ e.blk = some b' := fun b' hb' => by
      cases hb'
      exact .inl h4
    have hfl := flatten_length he
    have hmul : es.length * sz ≤ cap * sz := Nat.mul_le_mul_right _ h1
    have hold : ∀ b', b' < w.heap.size → (∀ e, B k = some e → e.blk ≠ some b') → w'.heap[b']? = w.heap[b']? := fun b' hb' _ => f.block b' hb' id
    have hg : ∀ e, B k = some e → (⟨nextG mem k, some b, vs.size⟩ : Bk) = e ∨ e.g < (⟨nextG mem k, some b, vs.size⟩ : Bk).g := fun e he => .inr (nextG_gt hmr k e he)
    refine ⟨updB B k ⟨nextG mem k, some b, vs.size⟩, ⟨?_, Trans.change f.size hold hg hblk, ⟨f.os, f.tape, f.output, f.size, fun b' hb' _ => f.block b' hb' id⟩, fresh_change hblk⟩, ?_⟩
    · refine hmr.change' (e' := ⟨nextG mem k, some b, vs.size⟩) f.size hold hg hblk (fun h => by cases h) fun b' hb' => ?_
      cases hb'
      refine ⟨vs, T, h5, rfl, by rw [List.length_map, hfl]; omega, fun i m hm => ?_⟩
      rw [List.getElem?_map, Option.map_eq_some_iff] at hm
      obtain ⟨d, hd, rfl⟩ := hm
      obtain ⟨u, hu, hden⟩ := h7 i d hd
      refine ⟨u, hu, .dat (hden.less fun b' hb' => ?_)⟩
      rcases hb' with ⟨j, e, hj, hx⟩ | ha
      · by_cases hjk : j = k
        · subst hjk
          rw [updB_same] at hj
          cases hj
          cases hx
          exact .inr rfl
        · rw [updB_other B _ hjk] at hj
          exact .inl (.inl ⟨j, e, hj, hx⟩)
      · exact .inl (.inr ha)
    · exact .ref (updB_same _ _ _) (Nat.le_refl _) ⟨_, cap, rfl, h1, h2, .inr ⟨b, rfl, fun _ => ⟨rfl, by simpa using h6⟩⟩⟩

end Go.Mini
