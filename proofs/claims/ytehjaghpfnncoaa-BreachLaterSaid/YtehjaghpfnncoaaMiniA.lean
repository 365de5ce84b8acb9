/- Values of the small semantics: immutable data, references into the activation's own blocks; how they stand to the model's values and worlds. -/
import Derived.Calls
import Derived.Still
import Derived.Below
import Derived.Laws.World
import Derived.Laws.Sem
import Derived.Laws.Entries
import Derived.Laws.Rows
import GoSem.ClaimData
set_option linter.unusedSimpArgs false
set_option linter.unusedVariables false
namespace Go.Mini
open Go

abbrev Key := Nat

/-- Immutable data. -/
inductive Data where
  | int (k : IntKind) (n : Int)
  | bool (b : Bool)
  | str (s : List UInt8)
  | sl (es : List (List Data))
  | ptr (cs : List Data)
  | nilp
  | fn (f : FuncId) (caps : List Data)
  | nilf
  | agg (cs : List Data)
  | tup (vs : List Data)
  deriving Inhabited

/-- Values of an activation: data, and references into own blocks: the block's key, and its generation. -/
inductive MV where
  | dat (d : Data)
  | nil
  | ref (k : Key) (g sz off len : Nat)
  | ptr (k : Key) (g off : Nat)
  | clo (f : FuncId) (caps : List MV)
  | agg (cs : List MV)
  | tup (vs : List MV)
  | no
  | undef
  deriving Inhabited

/-- What a value of the model's is, read as data in the world w, none of whose blocks is in O. -/
inductive Den (w : World) (O : Nat → Prop) : Data → Value → Prop
  | int {k : IntKind} {n : Int} : Den w O (.int k n) (.int k n)
  | bool {b : Bool} : Den w O (.bool b) (.bool b)
  | str {s : List UInt8} : Den w O (.str s) (.string ⟨s.toArray⟩)
  | sl0 {a : Option Addr} {c : Nat} : Den w O (.sl []) (.slice a 0 c)
  | sl {es : List (List Data)} {b off c sz : Nat} (val : Nat → Value) (hl : es.length ≤ c) (hm : es.length ≤ maxLen) (hb : b < w.heap.size) (hO : ¬ O b) (hsz : ∀ e ∈ es, e.length = sz)
      (hc : ∀ i, i < es.length * sz → w.cell? ⟨b, off + i, none⟩ = some (val i)) (hd : ∀ i d, es.flatten[i]? = some d → Den w O d (val i)) :
      Den w O (.sl es) (.slice (some ⟨b, off, none⟩) es.length c)
  | ptr {cs : List Data} {b off : Nat} (val : Nat → Value) (hb : b < w.heap.size) (hO : ¬ O b)
      (hc : ∀ i, i < cs.length → w.cell? ⟨b, off + i, none⟩ = some (val i)) (hd : ∀ i d, cs[i]? = some d → Den w O d (val i)) :
      Den w O (.ptr cs) (.pointer (some ⟨b, off, none⟩))
  | nilp : Den w O .nilp (.pointer none)
  | fn {f : FuncId} {caps : List Data} {vs : List Value} (hl : vs.length = caps.length) (hd : ∀ (i : Nat) (d : Data) (v : Value), caps[i]? = some d → vs[i]? = some v → Den w O d v) :
      Den w O (.fn f caps) (.func (.func f) #[] vs.toArray)
  | nilf : Den w O .nilf .nilFunc
  | agg {cs : List Data} {vs : List Value} (hl : vs.length = cs.length) (hd : ∀ (i : Nat) (d : Data) (v : Value), cs[i]? = some d → vs[i]? = some v → Den w O d v) :
      Den w O (.agg cs) (.agg vs.toArray)
  | tup {cs : List Data} {vs : List Value} (hl : vs.length = cs.length) (hd : ∀ (i : Nat) (d : Data) (v : Value), cs[i]? = some d → vs[i]? = some v → Den w O d v) :
      Den w O (.tup cs) (.tuple vs.toArray)

theorem flatten_length {es : List (List Data)} {sz : Nat} (h : ∀ e ∈ es, e.length = sz) : es.flatten.length = es.length * sz := by
  induction es with
  | nil => simp
  | cons e r ih =>
    have h1 := h e (by simp)
    have h2 := ih (fun x hx => h x (by simp [hx]))
    rw [List.flatten_cons, List.length_append, h1, h2, List.length_cons, Nat.add_mul, Nat.one_mul, Nat.add_comm]

/-- A world in which all that was outside O is as it was. -/
theorem Den.keep {w w' : World} {O O' : Nat → Prop} (hs : w.heap.size ≤ w'.heap.size) (h : ∀ b, b < w.heap.size → ¬ O b → w'.heap[b]? = w.heap[b]? ∧ ¬ O' b) {d : Data} {v : Value} (hd : Den w O d v) : Den w' O' d v := by
  induction hd with
  | int => exact .int
  | bool => exact .bool
  | str => exact .str
  | sl0 => exact .sl0
  | @sl es b off c sz val hl hm hb hO hsz hc hd ih =>
    obtain ⟨h1, h2⟩ := h b hb hO
    exact .sl val hl hm (by omega) h2 hsz (fun i hi => (World.cell?_of_block (a := ⟨b, off + i, none⟩) h1).trans (hc i hi)) ih
  | nilp => exact .nilp
  | nilf => exact .nilf
  | @ptr cs b off val hb hO hc hd ih =>
    obtain ⟨h1, h2⟩ := h b hb hO
    exact .ptr val (by omega) h2 (fun i hi => (World.cell?_of_block (a := ⟨b, off + i, none⟩) h1).trans (hc i hi)) ih
  | fn hl hd ih => exact .fn hl ih
  | agg hl hd ih => exact .agg hl ih
  | tup hl hd ih => exact .tup hl ih

/-- Where an own block lies: its generation, its place (none: nowhere, it is empty), its size. -/
structure Bk where
  g : Nat
  blk : Option Nat
  size : Nat

abbrev Lay := Key → Option Bk

def Own (B : Lay) (b : Nat) : Prop := ∃ k e, B k = some e ∧ e.blk = some b

/-- A slice of the shape; if it is of the present generation, it lies in the block. -/
def RefOK (e : Bk) (g sz off len : Nat) (v : Value) : Prop :=
  ∃ a cap, v = .slice a len cap ∧ len ≤ cap ∧ cap ≤ maxLen ∧ (cap = 0 ∨ ∃ b, a = some ⟨b, off, none⟩ ∧ (g = e.g → e.blk = some b ∧ off + cap * sz ≤ e.size))

def PtrOK (e : Bk) (g off : Nat) (v : Value) : Prop := ∃ b, v = .pointer (some ⟨b, off, none⟩) ∧ (g = e.g → e.blk = some b)

theorem RefOK.later {e e' : Bk} {g sz off len : Nat} {v : Value} (h : RefOK e g sz off len v) (hl : g < e'.g) : RefOK e' g sz off len v := by
  obtain ⟨a, cap, h1, h2, h3, h4⟩ := h
  refine ⟨a, cap, h1, h2, h3, h4.imp id ?_⟩
  rintro ⟨b, h5, _⟩
  exact ⟨b, h5, fun h => by omega⟩

theorem PtrOK.later {e e' : Bk} {g off : Nat} {v : Value} (h : PtrOK e g off v) (hl : g < e'.g) : PtrOK e' g off v := by
  obtain ⟨b, h1, _⟩ := h
  exact ⟨b, h1, fun h => by omega⟩

/-- How a value of an activation stands to the model's. A reference to an elder generation says nothing. -/
inductive VR (w : World) (O : Nat → Prop) (B : Lay) : MV → Value → Prop
  | dat {d : Data} {v : Value} (h : Den w O d v) : VR w O B (.dat d) v
  | nil {a : Option Addr} : VR w O B .nil (.slice a 0 0)
  | ref {k : Key} {g sz off len : Nat} {e : Bk} {v : Value} (he : B k = some e) (hg : g ≤ e.g) (hv : RefOK e g sz off len v) : VR w O B (.ref k g sz off len) v
  | ptr {k : Key} {g off : Nat} {e : Bk} {v : Value} (he : B k = some e) (hg : g ≤ e.g) (hv : PtrOK e g off v) : VR w O B (.ptr k g off) v
  | clo {f : FuncId} {caps : List MV} {vs : List Value} (hl : vs.length = caps.length) (hd : ∀ (i : Nat) (d : MV) (v : Value), caps[i]? = some d → vs[i]? = some v → VR w O B d v) :
      VR w O B (.clo f caps) (.func (.func f) #[] vs.toArray)
  | agg {cs : List MV} {vs : List Value} (hl : vs.length = cs.length) (hd : ∀ (i : Nat) (d : MV) (v : Value), cs[i]? = some d → vs[i]? = some v → VR w O B d v) :
      VR w O B (.agg cs) (.agg vs.toArray)
  | tup {cs : List MV} {vs : List Value} (hl : vs.length = cs.length) (hd : ∀ (i : Nat) (d : MV) (v : Value), cs[i]? = some d → vs[i]? = some v → VR w O B d v) :
      VR w O B (.tup cs) (.tuple vs.toArray)
  | no : VR w O B .no undef
  | undef {v : Value} : VR w O B .undef v

def OA (A : Nat → Prop) (B : Lay) (b : Nat) : Prop := Own B b ∨ A b

/-- From one world to a later one: what was not own, nor shut off, is as it was, and is not own now; blocks keep their places, or get a later generation. -/
structure Trans (A : Nat → Prop) (w : World) (B : Lay) (w' : World) (B' : Lay) : Prop where
  size : w.heap.size ≤ w'.heap.size
  old : ∀ b, b < w.heap.size → ¬ OA A B b → w'.heap[b]? = w.heap[b]? ∧ ¬ Own B' b
  key : ∀ k e, B k = some e → ∃ e', B' k = some e' ∧ (e' = e ∨ e.g < e'.g)

theorem Trans.refl (A : Nat → Prop) (w : World) (B : Lay) : Trans A w B w B :=
  ⟨Nat.le_refl _, fun _ _ h => ⟨rfl, fun ho => h (.inl ho)⟩, fun _ e he => ⟨e, he, .inl rfl⟩⟩

theorem Trans.trans {A : Nat → Prop} {w w1 w2 : World} {B B1 B2 : Lay} (h : Trans A w B w1 B1) (h' : Trans A w1 B1 w2 B2) : Trans A w B w2 B2 := by
  refine ⟨Nat.le_trans h.size h'.size, fun b hb ho => ?_, fun k e he => ?_⟩
  · obtain ⟨h1, h2⟩ := h.old b hb ho
    obtain ⟨h3, h4⟩ := h'.old b (Nat.lt_of_lt_of_le hb h.size) (fun hx => hx.elim h2 fun ha => ho (.inr ha))
    exact ⟨h3.trans h1, h4⟩
  · obtain ⟨e1, he1, hh⟩ := h.key k e he
    obtain ⟨e2, he2, hh2⟩ := h'.key k e1 he1
    refine ⟨e2, he2, ?_⟩
    rcases hh with rfl | hh <;> rcases hh2 with rfl | hh2
    · exact .inl rfl
    · exact .inr hh2
    · exact .inr hh
    · exact .inr (Nat.lt_trans hh hh2)

theorem Den.trans {A : Nat → Prop} {w w' : World} {B B' : Lay} (t : Trans A w B w' B') {d : Data} {v : Value} (h : Den w (OA A B) d v) : Den w' (OA A B') d v :=
  h.keep t.size fun b hb ho => ⟨(t.old b hb ho).1, fun hx => hx.elim (t.old b hb ho).2 fun ha => ho (.inr ha)⟩

theorem VR.keep {A : Nat → Prop} {w w' : World} {B B' : Lay} (t : Trans A w B w' B') {m : MV} {v : Value} (h : VR w (OA A B) B m v) : VR w' (OA A B') B' m v := by
  induction h with
  | dat h => exact .dat (h.trans t)
  | nil => exact .nil
  | @ref k g sz off len e v he hg hv =>
    obtain ⟨e', he', hh⟩ := t.key k e he
    rcases hh with rfl | hh
    · exact .ref he' hg hv
    · exact .ref he' (by omega) (hv.later (by omega))
  | @ptr k g off e v he hg hv =>
    obtain ⟨e', he', hh⟩ := t.key k e he
    rcases hh with rfl | hh
    · exact .ptr he' hg hv
    · exact .ptr he' (by omega) (hv.later (by omega))
  | clo hl hd ih => exact .clo hl ih
  | agg hl hd ih => exact .agg hl ih
  | tup hl hd ih => exact .tup hl ih
  | no => exact .no
  | undef => exact .undef

/-! ### Blocks -/
abbrev Mem := Key → Option (Nat × List MV)

def emp : Mem := fun _ => none
def updM (m : Mem) (k : Key) (g : Nat) (cs : List MV) : Mem := fun j => if j = k then some (g, cs) else m j
def nextG (m : Mem) (k : Key) : Nat := match m k with
  | none => 0
  | some (g, _) => g + 1

/-- How the own blocks lie in a world. -/
structure MemRel (A : Nat → Prop) (w : World) (B : Lay) (mem : Mem) : Prop where
  dom : ∀ k, mem k = none → B k = none
  inj : ∀ k k' e e' b, B k = some e → B k' = some e' → e.blk = some b → e'.blk = some b → k = k'
  sep : ∀ b, A b → ¬ Own B b
  lt : ∀ b, A b → b < w.heap.size
  blk : ∀ k g cs, mem k = some (g, cs) → ∃ e, B k = some e ∧ e.g = g ∧ (e.blk = none → cs = []) ∧
    ∀ b, e.blk = some b → ∃ vs T, w.heap[b]? = some (.cells vs T (0, 0)) ∧ vs.size = e.size ∧ cs.length ≤ vs.size ∧
      ∀ (i : Nat) (m : MV), cs[i]? = some m → ∃ v, vs[i]? = some v ∧ VR w (OA A B) B m v

theorem MemRel.own_lt {A : Nat → Prop} {w : World} {B : Lay} {mem : Mem} (h : MemRel A w B mem) {b : Nat} (hb : Own B b) : b < w.heap.size := by
  obtain ⟨k, e, he, hb⟩ := hb
  cases hm : mem k with
  | none => rw [h.dom k hm] at he; cases he
  | some x =>
    obtain ⟨g, cs⟩ := x
    obtain ⟨e', he', _, _, hh⟩ := h.blk k g cs hm
    rw [he'] at he
    cases he
    obtain ⟨vs, T, hv, _⟩ := hh b hb
    exact (Array.getElem?_eq_some_iff.1 hv).1

/-- What was there when the call began, and was not handed over, is as it was. -/
structure Fr (O0 : Nat → Prop) (w0 w : World) : Prop where
  os : w.os = w0.os
  tape : w.tape = w0.tape
  output : w.output = w0.output
  size : w0.heap.size ≤ w.heap.size
  block : ∀ g, g < w0.heap.size → ¬ O0 g → w.heap[g]? = w0.heap[g]?

theorem Fr.refl (O0 : Nat → Prop) (w : World) : Fr O0 w w := ⟨rfl, rfl, rfl, Nat.le_refl _, fun _ _ _ => rfl⟩
theorem Fr.drew {O0 : Nat → Prop} {w0 w : World} (h : Fr O0 w0 w) (n : Nat) : Fr O0 w0 { w with drawn := n } := ⟨h.os, h.tape, h.output, h.size, h.block⟩
theorem Fr.alloc {O0 : Nat → Prop} {w0 w : World} (h : Fr O0 w0 w) (o : Obj) : Fr O0 w0 (w.alloc o) :=
  ⟨h.os, h.tape, h.output, by simp; have := h.size; omega, fun g hg hO => (RowKit.Below.heap_alloc w o g (by have := h.size; omega)).trans (h.block g hg hO)⟩
theorem Fr.setCell {O0 : Nat → Prop} {w0 w : World} (h : Fr O0 w0 w) {p : Addr} (hp : O0 p.block ∨ w0.heap.size ≤ p.block) (u : Value) : Fr O0 w0 (w.setCell p u) :=
  ⟨h.os, h.tape, h.output, by simpa using h.size, fun g hg hO => (RowKit.Below.heap_setCell w p u g (by
    rintro rfl
    rcases hp with hp | hp
    · exact hO hp
    · omega)).trans (h.block g hg hO)⟩
theorem Fr.below {w0 w : World} (h : Fr (fun _ => False) w0 w) : RowKit.Below w0.heap.size w0 w := ⟨h.os, h.tape, h.output, h.size, fun g hg => h.block g hg id⟩

end Go.Mini
