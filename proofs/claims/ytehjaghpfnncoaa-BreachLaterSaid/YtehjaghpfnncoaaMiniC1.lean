/- How one operation of the small semantics stands to the model's: what becomes of the own blocks. -/
import Derived.Test.YtehjaghpfnncoaaMiniT
import Derived.Laws.CopyRow
import Derived.Laws.MakeOwn
import Derived.Laws.Append
import Derived.Laws.AppendOwn
set_option linter.unusedSimpArgs false
set_option linter.unusedVariables false
namespace Go.Mini
open Go

structure StepOK (A : Nat → Prop) (w : World) (B : Lay) (w' : World) (B' : Lay) (mem' : Mem) : Prop where
  mr : MemRel A w' B' mem'
  tr : Trans A w B w' B'
  fr : Fr (Own B) w w'
  fresh : ∀ b, Own B' b → Own B b ∨ w.heap.size ≤ b

theorem StepOK.still {A : Nat → Prop} {w w' : World} {B : Lay} {mem : Mem} (h : MemRel A w B mem) (f : Fr (fun _ => False) w w') : StepOK A w B w' B mem := by
  have tr : Trans A w B w' B := ⟨f.size, fun b hb ho => ⟨f.block b hb id, fun hx => ho (.inl hx)⟩, fun _ e he => ⟨e, he, .inl rfl⟩⟩
  refine ⟨⟨h.dom, h.inj, h.sep, fun b hb => Nat.lt_of_lt_of_le (h.lt b hb) f.size, fun k g cs hm => ?_⟩, tr, ⟨f.os, f.tape, f.output, f.size, fun b hb _ => f.block b hb id⟩, fun b hb => .inl hb⟩
  obtain ⟨e, he, hg, hn, hb⟩ := h.blk k g cs hm
  refine ⟨e, he, hg, hn, fun b hbb => ?_⟩
  obtain ⟨vs, T, h1, h2, h3, h4⟩ := hb b hbb
  have hlt : b < w.heap.size := (Array.getElem?_eq_some_iff.1 h1).1
  exact ⟨vs, T, (f.block b hlt id).trans h1, h2, h3, fun i m hm => let ⟨v, hv, hr⟩ := h4 i m hm; ⟨v, hv, hr.keep tr⟩⟩

theorem StepOK.refl {A : Nat → Prop} {w : World} {B : Lay} {mem : Mem} (h : MemRel A w B mem) : StepOK A w B w B mem := .still h (Fr.refl _ _)

def updB (B : Lay) (k : Key) (e : Bk) : Lay := fun j => if j = k then some e else B j

theorem updB_same (B : Lay) (k : Key) (e : Bk) : updB B k e k = some e := by simp [updB]
theorem updB_other (B : Lay) {k j : Key} (e : Bk) (h : j ≠ k) : updB B k e j = B j := by simp [updB, h]

section
variable {A : Nat → Prop} {w w' : World} {B : Lay} {mem : Mem} {k : Key} {e' : Bk} {cs : List MV}

theorem Trans.change (hsz : w.heap.size ≤ w'.heap.size)
    (hold : ∀ b, b < w.heap.size → (∀ e, B k = some e → e.blk ≠ some b) → w'.heap[b]? = w.heap[b]?)
    (hg : ∀ e, B k = some e → e' = e ∨ e.g < e'.g)
    (hblk : ∀ b, e'.blk = some b → w.heap.size ≤ b ∨ ∃ e, B k = some e ∧ e.blk = some b) : Trans A w B w' (updB B k e') := by
  refine ⟨hsz, fun b hb ho => ⟨hold b hb fun e he hx => ho (.inl ⟨k, e, he, hx⟩), ?_⟩, fun j e he => ?_⟩
  · rintro ⟨j, e, he, hx⟩
    by_cases hj : j = k
    · subst hj
      rw [updB_same] at he
      cases he
      rcases hblk b hx with h1 | ⟨e, h1, h2⟩
      · omega
      · exact ho (.inl ⟨_, e, h1, h2⟩)
    · rw [updB_other B e' hj] at he
      exact ho (.inl ⟨j, e, he, hx⟩)
  · by_cases hj : j = k
    · subst hj
      exact ⟨e', updB_same _ _ _, hg e he⟩
    · exact ⟨e, (updB_other B e' hj).trans he, .inl rfl⟩

theorem fresh_change (hblk : ∀ b, e'.blk = some b → w.heap.size ≤ b ∨ ∃ e, B k = some e ∧ e.blk = some b) (b : Nat) (h : Own (updB B k e') b) : Own B b ∨ w.heap.size ≤ b := by
  obtain ⟨j, e, he, hx⟩ := h
  by_cases hj : j = k
  · subst hj
    rw [updB_same] at he
    cases he
    rcases hblk b hx with h1 | ⟨e, h1, h2⟩
    · exact .inr h1
    · exact .inl ⟨_, e, h1, h2⟩
  · rw [updB_other B e' hj] at he
    exact .inl ⟨j, e, he, hx⟩

theorem MemRel.change' (h : MemRel A w B mem) (hsz : w.heap.size ≤ w'.heap.size)
    (hold : ∀ b, b < w.heap.size → (∀ e, B k = some e → e.blk ≠ some b) → w'.heap[b]? = w.heap[b]?)
    (hg : ∀ e, B k = some e → e' = e ∨ e.g < e'.g)
    (hblk : ∀ b, e'.blk = some b → w.heap.size ≤ b ∨ ∃ e, B k = some e ∧ e.blk = some b)
    (hn : e'.blk = none → cs = [])
    (hc : ∀ b, e'.blk = some b → ∃ vs T, w'.heap[b]? = some (.cells vs T (0, 0)) ∧ vs.size = e'.size ∧ cs.length ≤ vs.size ∧
      ∀ (i : Nat) (m : MV), cs[i]? = some m → ∃ v, vs[i]? = some v ∧ VR w' (OA A (updB B k e')) (updB B k e') m v) : MemRel A w' (updB B k e') (updM mem k e'.g cs) := by
  have tr : Trans A w B w' (updB B k e') := Trans.change hsz hold hg hblk
  have fresh := fresh_change (w := w) hblk
  refine ⟨fun j hj => ?_, fun j j' e e2 b he he2 hb hb2 => ?_, fun b ha ho => ?_, fun b hb => Nat.lt_of_lt_of_le (h.lt b hb) hsz, fun j g cs' hm => ?_⟩
  · by_cases hjk : j = k
    · subst hjk; simp [updM] at hj
    · simp only [updM, hjk, if_false] at hj
      rw [updB_other B e' hjk]
      exact h.dom j hj
  · by_cases hjk : j = k <;> by_cases hjk' : j' = k
    · rw [hjk, hjk']
    · subst hjk
      rw [updB_same] at he
      cases he
      rw [updB_other B e' hjk'] at he2
      rcases hblk b hb with h1 | ⟨e, h1, h2⟩
      · have := h.own_lt ⟨j', e2, he2, hb2⟩; omega
      · exact h.inj _ _ e e2 b h1 he2 h2 hb2
    · subst hjk'
      rw [updB_same] at he2
      cases he2
      rw [updB_other B e' hjk] at he
      rcases hblk b hb2 with h1 | ⟨e3, h1, h2⟩
      · have := h.own_lt ⟨j, e, he, hb⟩; omega
      · exact h.inj _ _ e e3 b he h1 hb h2
    · rw [updB_other B e' hjk] at he
      rw [updB_other B e' hjk'] at he2
      exact h.inj j j' e e2 b he he2 hb hb2
  · rcases fresh b ho with h1 | h1
    · exact h.sep b ha h1
    · have := h.lt b ha; omega
  · by_cases hjk : j = k
    · subst hjk
      simp only [updM, if_true, Option.some.injEq, Prod.mk.injEq] at hm
      obtain ⟨rfl, rfl⟩ := hm
      refine ⟨e', updB_same _ _ _, rfl, hn, fun b hb => ?_⟩
      obtain ⟨vs, T, h1, h2, h3, h4⟩ := hc b hb
      exact ⟨vs, T, h1, h2, h3, h4⟩
    · simp only [updM, hjk, if_false] at hm
      obtain ⟨e, he, hg', hn', hb'⟩ := h.blk j g cs' hm
      refine ⟨e, (updB_other B e' hjk).trans he, hg', hn', fun b hb => ?_⟩
      obtain ⟨vs, T, h1, h2, h3, h4⟩ := hb' b hb
      have hlt : b < w.heap.size := (Array.getElem?_eq_some_iff.1 h1).1
      have hsame : w'.heap[b]? = w.heap[b]? := hold b hlt fun e3 h3 h4 => hjk (h.inj j k e e3 b he h3 hb h4)
      exact ⟨vs, T, hsame.trans h1, h2, h3, fun i m hm => let ⟨v, hv, hr⟩ := h4 i m hm; ⟨v, hv, hr.keep tr⟩⟩

theorem MemRel.change (h : MemRel A w B mem) (hsz : w.heap.size ≤ w'.heap.size)
    (hold : ∀ b, b < w.heap.size → (∀ e, B k = some e → e.blk ≠ some b) → w'.heap[b]? = w.heap[b]?)
    (hg : ∀ e, B k = some e → e' = e ∨ e.g < e'.g)
    (hblk : ∀ b, e'.blk = some b → w.heap.size ≤ b ∨ ∃ e, B k = some e ∧ e.blk = some b)
    (hn : e'.blk = none → cs = [])
    (hc : ∀ b, e'.blk = some b → ∃ vs T, w'.heap[b]? = some (.cells vs T (0, 0)) ∧ vs.size = e'.size ∧ cs.length ≤ vs.size ∧
      ∀ (i : Nat) (m : MV), cs[i]? = some m → ∃ v, vs[i]? = some v ∧ VR w (OA A B) B m v) : MemRel A w' (updB B k e') (updM mem k e'.g cs) :=
  h.change' hsz hold hg hblk hn fun b hb => by
    have tr : Trans A w B w' (updB B k e') := Trans.change hsz hold hg hblk
    obtain ⟨vs, T, h1, h2, h3, h4⟩ := hc b hb
    exact ⟨vs, T, h1, h2, h3, fun i m hm => let ⟨v, hv, hr⟩ := h4 i m hm; ⟨v, hv, hr.keep tr⟩⟩

/-- One block changes, or is made. -/
theorem StepOK.change (h : MemRel A w B mem) (f : Fr (fun b => ∃ e, B k = some e ∧ e.blk = some b) w w')
    (hg : ∀ e, B k = some e → e' = e ∨ e.g < e'.g)
    (hblk : ∀ b, e'.blk = some b → w.heap.size ≤ b ∨ ∃ e, B k = some e ∧ e.blk = some b)
    (hn : e'.blk = none → cs = [])
    (hc : ∀ b, e'.blk = some b → ∃ vs T, w'.heap[b]? = some (.cells vs T (0, 0)) ∧ vs.size = e'.size ∧ cs.length ≤ vs.size ∧
      ∀ (i : Nat) (m : MV), cs[i]? = some m → ∃ v, vs[i]? = some v ∧ VR w (OA A B) B m v) : StepOK A w B w' (updB B k e') (updM mem k e'.g cs) := by
  have hold : ∀ b, b < w.heap.size → (∀ e, B k = some e → e.blk ≠ some b) → w'.heap[b]? = w.heap[b]? :=
    fun b hb hx => f.block b hb fun ⟨e, he, hbb⟩ => hx e he hbb
  exact ⟨h.change f.size hold hg hblk hn hc, Trans.change f.size hold hg hblk, ⟨f.os, f.tape, f.output, f.size, fun b hb ho => f.block b hb fun ⟨e, he, hbb⟩ => ho ⟨k, e, he, hbb⟩⟩, fresh_change hblk⟩

theorem nextG_gt (h : MemRel A w B mem) (k : Key) (e : Bk) (he : B k = some e) : e.g < nextG mem k := by
  cases hm : mem k with
  | none => rw [h.dom k hm] at he; cases he
  | some x =>
    obtain ⟨g, cs⟩ := x
    obtain ⟨e2, h1, h2, _⟩ := h.blk k g cs hm
    rw [h1] at he
    cases he
    simp [nextG, hm, h2]

/-- A new block. -/
theorem StepOK.alloc (h : MemRel A w B mem) (w1 : World) (f : Fr (fun _ => False) w w1) (hz : w1.heap.size = w.heap.size) (k : Key) (vs : Array Value) (T : TypeId) (hl : cs.length ≤ vs.size)
    (hc : ∀ (i : Nat) (m : MV), cs[i]? = some m → ∃ v, vs[i]? = some v ∧ VR w (OA A B) B m v) :
    StepOK A w B (w1.alloc (.cells vs T)) (updB B k ⟨nextG mem k, some w.heap.size, vs.size⟩) (updM mem k (nextG mem k) cs) := by
  have f2 : Fr (fun _ => False) w (w1.alloc (.cells vs T)) := f.alloc _
  refine StepOK.change (e' := ⟨nextG mem k, some w.heap.size, vs.size⟩) h ⟨f2.os, f2.tape, f2.output, f2.size, fun b hb _ => f2.block b hb id⟩ (fun e he => .inr (nextG_gt h k e he)) (fun b hb => .inl ?_) (by simp) ?_
  · simp at hb; omega
  · intro b hb
    simp at hb
    subst hb
    exact ⟨vs, T, by rw [← hz]; exact heap_alloc_new w1 _, rfl, hl, hc⟩

/-- A block that lies nowhere yet. -/
theorem StepOK.virtual (h : MemRel A w B mem) (k : Key) : StepOK A w B w (updB B k ⟨nextG mem k, none, 0⟩) (updM mem k (nextG mem k) []) :=
  StepOK.change (e' := ⟨nextG mem k, none, 0⟩) h ⟨rfl, rfl, rfl, Nat.le_refl _, fun _ _ _ => rfl⟩ (fun e he => .inr (nextG_gt h k e he)) (fun b hb => by simp at hb) (fun _ => rfl) (fun b hb => by simp at hb)
end

theorem StepOK.trans {A : Nat → Prop} {w w1 w2 : World} {B B1 B2 : Lay} {m1 m2 : Mem} (h : StepOK A w B w1 B1 m1) (h' : StepOK A w1 B1 w2 B2 m2) : StepOK A w B w2 B2 m2 := by
  refine ⟨h'.mr, h.tr.trans h'.tr, ⟨h'.fr.os.trans h.fr.os, h'.fr.tape.trans h.fr.tape, h'.fr.output.trans h.fr.output, Nat.le_trans h.fr.size h'.fr.size, fun b hb ho => ?_⟩, fun b hb => ?_⟩
  · have h1 := h.fr.block b hb ho
    refine (h'.fr.block b (Nat.lt_of_lt_of_le hb h.fr.size) fun hx => ?_).trans h1
    rcases h.fresh b hx with h2 | h2
    · exact ho h2
    · omega
  · rcases h'.fresh b hb with h1 | h1
    · exact h.fresh b h1
    · exact .inr (Nat.le_trans h.fr.size h1)

/-! ### constants -/
theorem cst1_rel {w : World} {O : Nat → Prop} {B : Lay} {v : Value} {m : MV} (h : cst1 v = some m) : VR w O B m v := by
  unfold cst1 at h
  split at h <;> simp only [Option.some.injEq, reduceCtorEq] at h <;> subst h
  · exact .dat .int
  · exact .dat .bool
  · rename_i s
    exact .dat (by
      have : s = ⟨s.data.toList.toArray⟩ := by simp
      rw [this]
      simpa using Den.str (s := s.data.toList))
  · exact .nil
  · exact .dat .nilp
  · exact .dat .nilf

theorem mapM_get {α β : Type} {f : α → Option β} : ∀ {l : List α} {r : List β}, l.mapM f = some r → r.length = l.length ∧ ∀ (i : Nat) (x : α) (y : β), l[i]? = some x → r[i]? = some y → f x = some y
  | [], r, h => by
    simp at h
    subst h
    exact ⟨rfl, fun i x y h1 => by simp at h1⟩
  | a :: l, r, h => by
    simp only [List.mapM_cons, Option.pure_def, Option.bind_eq_bind, Option.bind_eq_some_iff, Option.some.injEq] at h
    obtain ⟨b, hb, r', hr, rfl⟩ := h
    obtain ⟨h1, h2⟩ := mapM_get hr
    refine ⟨by simp [h1], fun i x y hx hy => ?_⟩
    cases i with
    | zero => simp at hx hy; subst hx; subst hy; exact hb
    | succ i => exact h2 i x y (by simpa using hx) (by simpa using hy)

theorem cst_rel {w : World} {O : Nat → Prop} {B : Lay} {v : Value} {m : MV} (h : cst v = some m) : VR w O B m v := by
  unfold cst at h
  split at h
  · rename_i cs
    simp only [Option.map_eq_some_iff] at h
    obtain ⟨ms, hms, rfl⟩ := h
    obtain ⟨h1, h2⟩ := mapM_get hms
    have := VR.agg (w := w) (O := O) (B := B) (cs := ms) (vs := cs.toList) (by simp [h1]) fun i d v hd hv => cst1_rel (h2 i v d hv hd)
    simpa using this
  · exact cst1_rel h

end Go.Mini
