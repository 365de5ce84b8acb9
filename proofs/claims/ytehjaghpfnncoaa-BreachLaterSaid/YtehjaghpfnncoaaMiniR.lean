/- The rows: what the arguments of a statement's function are read as, is data of the small semantics; what the function leaves, is as the row wants it. -/
import Derived.Test.YtehjaghpfnncoaaMiniH
import Derived.ChangeSame
import Derived.Handed
import Derived.JoinedOf
import Derived.JoinedCond
import Derived.OpenShut
import Derived.ProofKit
set_option linter.unusedSimpArgs false
set_option linter.unusedVariables false
namespace Go.Mini
open Go Go.ChangeShapes Go.WideShapes

/-- Types of plain data. -/
inductive Sch where
  | int (k : IntKind)
  | bool
  | str
  | sl (e : Sch)
  | st (l : List Sch)

mutual
/-- Cells of a type. -/
def Fit : Sch → List Data → Prop
  | .int k, ds => ∃ n, ds = [.int k n] ∧ (Lit.int k n).wf = true
  | .bool, ds => ∃ b, ds = [.bool b]
  | .str, ds => ∃ s, ds = [.str s] ∧ s.length ≤ maxLen
  | .sl e, ds => ∃ es, ds = [.sl es] ∧ es.length ≤ maxLen ∧ ∀ x ∈ es, Fit e x
  | .st l, ds => Fits l ds
def Fits : List Sch → List Data → Prop
  | [], ds => ds = []
  | s :: r, ds => ∃ a b, ds = a ++ b ∧ Fit s a ∧ Fits r b
end

def tiles (P : Program) : Nat → List Field → Nat → Bool
  | off, [], tot => off == tot
  | off, f :: r, tot => f.offset == off && tiles P (off + P.cellsOf f.type) r tot

def schsOf (g : TypeId → Option Sch) : List Field → Option (List Sch)
  | [] => some []
  | f :: r => match g f.type, schsOf g r with
    | some s, some l => some (s :: l)
    | _, _ => none
def schOf (P : Program) : Nat → TypeId → Option Sch
  | 0, _ => none
  | n + 1, t => match P.underlying t with
    | some .bool => some .bool
    | some (.int k) => some (.int k)
    | some .string => some .str
    | some (.slice e) => if 0 < P.cellsOf e then (schOf P n e).map .sl else none
    | some (.struct fs) => if tiles P 0 fs.toList (P.cellsOf t) = true then (schsOf (schOf P n) fs.toList).map .st else none
    | _ => none

section
variable {H : Type} {enc : TypeId × Value → H} {P : Program} {w : World} {base : Nat}

/-- What a reading gives. -/
def Rd (enc : TypeId × Value → H) (P : Program) (w : World) (base : Nat) (S : Sch) (fuel : Nat) (t : TypeId) (cs : List Value) (x : DataW H × List MemPlace) : Prop :=
  (∃ ds, Fit S ds ∧ DenL w (fun _ => False) ds cs) ∧ (∀ p ∈ x.2, p.block < w.heap.size) ∧
  ∀ (w' : World) (sp : Nat → Bool), (∀ p ∈ x.2, sp p.block = true) → (∀ b, b < w.heap.size → w'.heap[b]? = w.heap[b]?) → DataW.trod enc P w' base sp true fuel t cs = some x

theorem denL_one {O : Nat → Prop} {d : Data} {v : Value} (h : Den w O d v) : DenL w O [d] [v] := by
  refine ⟨rfl, fun i d' v' h1 h2 => ?_⟩
  cases i with
  | zero => cases h1; cases h2; exact h
  | succ i => simp at h1

theorem add_block (a : Addr) (i : Nat) : (a.add i).block = a.block := by
  unfold Addr.add
  split <;> rfl
theorem add_plain (b off i : Nat) : (Addr.add ⟨b, off, none⟩ i) = ⟨b, off + i, none⟩ := by
  unfold Addr.add
  split
  · rename_i h; subst h; rfl
  · rfl

theorem cells_keep {w' : World} {a : Addr} {n : Nat} {cs : List Value} (h : w.cells? base a n = some cs) (hk : ∀ b, b < w.heap.size → w'.heap[b]? = w.heap[b]?) : w'.cells? base a n = some cs := by
  unfold World.cells? at h ⊢
  split at h
  · rename_i hb
    rw [if_pos hb, ← h]
    by_cases hlt : a.block < w.heap.size
    · have he : (fun i => w'.cell? (a.add i)) = fun i => w.cell? (a.add i) := by
        funext i
        exact World.cell?_of_block (a := a.add i) (hk _ (by rw [add_block]; exact hlt))
      rw [he]
    · cases n with
      | zero => rfl
      | succ n =>
        exfalso
        have : w.cell? (a.add 0) = none := by
          unfold World.cell?
          have : w.heap[(a.add 0).block]? = none := Array.getElem?_eq_none (by rw [add_block]; omega)
          rw [this]
        rw [List.range_succ_eq_map, List.mapM_cons, this] at h
        cases h
  · cases h

theorem cells_get {a : Addr} {n : Nat} {cs : List Value} (h : w.cells? base a n = some cs) : cs.length = n ∧ ∀ i, i < n → ∃ v, cs[i]? = some v ∧ w.cell? (a.add i) = some v := by
  unfold World.cells? at h
  split at h
  · obtain ⟨h1, h2⟩ := mapM_get h
    rw [List.length_range] at h1
    refine ⟨h1, fun i hi => ?_⟩
    have hc := List.getElem?_eq_getElem (l := cs) (i := i) (by omega)
    exact ⟨_, hc, h2 i i _ (by simp [hi]) hc⟩
  · cases h

theorem cell_lt {a : Addr} {v : Value} (h : w.cell? a = some v) : a.block < w.heap.size ∧ a.spot = none := by
  unfold World.cell? at h
  split at h
  · rename_i hb
    refine ⟨(Array.getElem?_eq_some_iff.1 hb).1, ?_⟩
    cases hs : a.spot with
    | none => rfl
    | some x => rw [hs] at h; simp at h
  · cases h

theorem mapM_congr {α β : Type} {f g : α → Option β} : ∀ {l : List α}, (∀ x ∈ l, f x = g x) → l.mapM f = l.mapM g := by
  intro l
  induction l with
  | nil => intro _; rfl
  | cons a r ih =>
    intro h
    rw [List.mapM_cons, List.mapM_cons, h a (by simp), ih fun x hx => h x (by simp [hx])]

theorem list_choose {β : Type} (len : Nat) (Q : Nat → β → Prop) (h : ∀ i, i < len → ∃ y, Q i y) : ∃ l : List β, l.length = len ∧ ∀ i y, l[i]? = some y → Q i y := by
  induction len with
  | zero => exact ⟨[], rfl, fun i y h => by simp at h⟩
  | succ n ih =>
    obtain ⟨l, h1, h2⟩ := ih fun i hi => h i (by omega)
    obtain ⟨y, hy⟩ := h n (by omega)
    refine ⟨l ++ [y], by simp [h1], fun i z hz => ?_⟩
    rw [List.getElem?_append] at hz
    split at hz
    · exact h2 i z hz
    · rename_i hlt
      have : i - l.length = 0 := by
        have := (List.getElem?_eq_some_iff.1 hz).1
        simp at this
        omega
      rw [this] at hz
      cases hz
      have : i = n := by omega
      subst this
      exact hy

theorem flatten_at {β : Type} {sz : Nat} : ∀ (es : List (List β)), (∀ e ∈ es, e.length = sz) → 0 < sz → ∀ (i : Nat) (d : β), es.flatten[i]? = some d → ∃ e, es[i / sz]? = some e ∧ e[i % sz]? = some d := by
  intro es
  induction es with
  | nil => intro _ _ i d h; simp at h
  | cons e r ih =>
    intro h hz i d hd
    have he := h e (by simp)
    rw [List.flatten_cons, List.getElem?_append] at hd
    split at hd
    · rename_i hlt
      rw [he] at hlt
      refine ⟨e, by rw [Nat.div_eq_of_lt hlt]; rfl, by rw [Nat.mod_eq_of_lt hlt]; exact hd⟩
    · rename_i hge
      rw [he] at hd hge
      obtain ⟨x, h1, h2⟩ := ih (fun y hy => h y (by simp [hy])) hz _ d hd
      have hi : i = (i - sz) + sz := by omega
      refine ⟨x, ?_, ?_⟩
      · rw [hi, Nat.add_div_right _ hz]
        simpa using h1
      · rw [hi, Nat.add_mod_right]
        exact h2

theorem read_fields {n fuel : Nat} (ih : ∀ t S, schOf P n t = some S → ∀ (cs : List Value) (x : DataW H × List MemPlace), DataW.trod enc P w base (fun _ => true) true fuel t cs = some x → Rd enc P w base S fuel t cs x) (cs : List Value) :
    ∀ (fs : List Field) (off : Nat) (l : List Sch) (xs : List (DataW H × List MemPlace)), schsOf (schOf P n) fs = some l → tiles P off fs cs.length = true →
      fs.mapM (fun f => DataW.trod enc P w base (fun _ => true) true fuel f.type ((cs.drop f.offset).take (P.cellsOf f.type))) = some xs →
      (∃ ds, Fits l ds ∧ DenL w (fun _ => False) ds (cs.drop off)) ∧ (∀ p ∈ xs.flatMap (·.2), p.block < w.heap.size) ∧
      ∀ (w' : World) (sp : Nat → Bool), (∀ p ∈ xs.flatMap (·.2), sp p.block = true) → (∀ b, b < w.heap.size → w'.heap[b]? = w.heap[b]?) →
        fs.mapM (fun f => DataW.trod enc P w' base sp true fuel f.type ((cs.drop f.offset).take (P.cellsOf f.type))) = some xs := by
  intro fs
  induction fs with
  | nil =>
    intro off l xs hl ht hx
    simp only [schsOf, Option.some.injEq] at hl
    subst hl
    simp only [tiles, beq_iff_eq] at ht
    simp only [List.mapM_nil, Option.pure_def, Option.some.injEq] at hx
    subst hx
    refine ⟨⟨[], rfl, ?_⟩, by simp, fun _ _ _ _ => rfl⟩
    rw [ht, List.drop_length]
    exact ⟨rfl, fun i d v h => by simp at h⟩
  | cons f r ihf =>
    intro off l xs hl ht hx
    unfold schsOf at hl
    split at hl
    · rename_i s l' hs hl'
      cases hl
      simp only [tiles, Bool.and_eq_true, beq_iff_eq] at ht
      obtain ⟨hoff, ht⟩ := ht
      rw [List.mapM_cons] at hx
      simp only [Option.pure_def, Option.bind_eq_bind, Option.bind_eq_some_iff, Option.some.injEq] at hx
      obtain ⟨x, hx1, ys, hys, rfl⟩ := hx
      obtain ⟨⟨da, ha1, ha2⟩, ha3, ha4⟩ := ih _ _ hs _ _ hx1
      obtain ⟨⟨db, hb1, hb2⟩, hb3, hb4⟩ := ihf _ _ _ hl' ht hys
      refine ⟨⟨da ++ db, ⟨da, db, rfl, ha1, hb1⟩, ?_⟩, ?_, ?_⟩
      · have hsplit : cs.drop off = (cs.drop off).take (P.cellsOf f.type) ++ cs.drop (off + P.cellsOf f.type) := by
          rw [← List.drop_drop, List.take_append_drop]
        rw [hoff] at ha2
        rw [hsplit]
        refine ⟨by rw [List.length_append, List.length_append, ha2.1, hb2.1], fun i d v h1 h2 => ?_⟩
        rw [List.getElem?_append] at h1 h2
        have hlen := ha2.1
        by_cases hlt : i < da.length
        · rw [if_pos hlt] at h1
          rw [if_pos (by omega)] at h2
          exact ha2.2 i d v h1 h2
        · rw [if_neg hlt] at h1
          rw [if_neg (by omega), hlen] at h2
          exact hb2.2 _ d v h1 h2
      · intro p hp
        rw [List.flatMap_cons, List.mem_append] at hp
        exact hp.elim (ha3 p) (hb3 p)
      · intro w' sp hsp hk
        rw [List.mapM_cons, ha4 w' sp (fun p hp => hsp p (by rw [List.flatMap_cons, List.mem_append]; exact .inl hp)) hk]
        have := hb4 w' sp (fun p hp => hsp p (by rw [List.flatMap_cons, List.mem_append]; exact .inr hp)) hk
        simp only [Option.pure_def, Option.bind_eq_bind, Option.bind_some]
        rw [this]
        rfl
    · cases hl

theorem read_sch : ∀ (n : Nat) (t : TypeId) (S : Sch), schOf P n t = some S → ∀ (fuel : Nat) (cs : List Value) (x : DataW H × List MemPlace), DataW.trod enc P w base (fun _ => true) true fuel t cs = some x → Rd enc P w base S fuel t cs x := by
  intro n
  induction n with
  | zero => intro t S h; simp [schOf] at h
  | succ n ih =>
    intro t S hS fuel cs x hx
    cases fuel with
    | zero => cases hx
    | succ fuel =>
      unfold schOf at hS
      split at hS
      · -- bool
        rename_i hu
        cases hS
        have key : ∀ (w' : World) (sp : Nat → Bool) (cs : List Value), DataW.trod enc P w' base sp true (fuel + 1) t cs = match cs with | [.bool b] => some (.lit (.bool b), []) | _ => none := by
          intro w' sp cs
          unfold DataW.trod
          rw [hu]
          clear hx
          split <;> simp_all
        rw [key] at hx
        split at hx
        · cases hx
          exact ⟨⟨_, ⟨_, rfl⟩, denL_one .bool⟩, by simp, fun w' sp _ _ => by rw [key]⟩
        · cases hx
      · -- int
        rename_i k hu
        cases hS
        have key : ∀ (w' : World) (sp : Nat → Bool) (cs : List Value), DataW.trod enc P w' base sp true (fuel + 1) t cs = match cs with | [.int k' n] => if k' = k ∧ (Lit.int k n).wf = true then some (.lit (.int k n), []) else none | _ => none := by
          intro w' sp cs
          unfold DataW.trod
          rw [hu]
          clear hx
          split <;> simp_all
        rw [key] at hx
        split at hx
        · split at hx
          · rename_i hc
            cases hx
            obtain ⟨rfl, hwf⟩ := hc
            exact ⟨⟨_, ⟨_, rfl, hwf⟩, denL_one .int⟩, by simp, fun w' sp _ _ => by rw [key]; simp [hwf]⟩
          · cases hx
        · cases hx
      · -- string
        rename_i hu
        cases hS
        have key : ∀ (w' : World) (sp : Nat → Bool) (cs : List Value), DataW.trod enc P w' base sp true (fuel + 1) t cs = match cs with | [.string s] => if s.size ≤ maxLen then some (.lit (.string s.data.toList), []) else none | _ => none := by
          intro w' sp cs
          unfold DataW.trod
          rw [hu]
          clear hx
          split <;> simp_all
        rw [key] at hx
        split at hx
        · rename_i s
          split at hx
          · rename_i hc
            cases hx
            refine ⟨⟨[.str s.data.toList], ⟨_, rfl, ?_⟩, denL_one ?_⟩, by simp, fun w' sp _ _ => by rw [key]; simp [hc]⟩
            · rw [Array.length_toList]; exact hc
            · have : Den w (fun _ => False) (.str s.data.toList) (.string ⟨s.data.toList.toArray⟩) := .str
              simpa using this
          · cases hx
        · cases hx
      · -- slice
        rename_i e hu
        split at hS
        · rename_i hc
          rw [Option.map_eq_some_iff] at hS
          obtain ⟨S, hS, rfl⟩ := hS
          have key : ∀ (w' : World) (sp : Nat → Bool) (cs : List Value), DataW.trod enc P w' base sp true (fuel + 1) t cs = match cs with
            | [.slice none 0 0] => some (.nil, [])
            | [.slice (some a) len cap] =>
              if base ≤ a.block ∧ len ≤ cap ∧ cap ≤ maxLen then
                ((List.range len).mapM fun i => (w'.cells? base (a.add (i * P.cellsOf e)) (P.cellsOf e)).bind (DataW.trod enc P w' base sp true fuel e)).bind fun elems =>
                  (if sp a.block then (List.range (cap - len)).mapM fun j => (w'.cells? base (a.add ((len + j) * P.cellsOf e)) (P.cellsOf e)).bind (DataW.trod enc P w' base sp true fuel e) else some []).map fun rest =>
                    (.slice (elems.map (·.1)) (rest.map (·.1)), MemPlace.row a ((elems.length + rest.length) * P.cellsOf e) ++ (elems ++ rest).flatMap (·.2))
              else none
            | _ => none := by
            intro w' sp cs
            conv => lhs; unfold DataW.trod
            rw [hu]
            clear hx
            split <;> simp_all
          rw [key] at hx
          split at hx
          · cases hx
            exact ⟨⟨[.sl []], ⟨_, rfl, Nat.zero_le _, by simp⟩, denL_one .sl0⟩, by simp, fun w' sp _ _ => by rw [key]; rfl⟩
          · rename_i a len cap
            split at hx
            · rename_i hb
              rw [Option.bind_eq_some_iff] at hx
              obtain ⟨elems, he, hx⟩ := hx
              rw [Option.map_eq_some_iff] at hx
              obtain ⟨rest, hr, rfl⟩ := hx
              rw [if_pos rfl] at hr
              obtain ⟨hel, heg⟩ := mapM_get he
              obtain ⟨hrl, hrg⟩ := mapM_get hr
              rw [List.length_range] at hel hrl
              -- each place
              have hat : ∀ i y, (i < len → elems[i]? = some y) → (¬ i < len → i < cap ∧ rest[i - len]? = some y) → ∃ ci, w.cells? base (a.add (i * P.cellsOf e)) (P.cellsOf e) = some ci ∧ DataW.trod enc P w base (fun _ => true) true fuel e ci = some y := by
                intro i y h1 h2
                by_cases hi : i < len
                · have := heg i i y (by simp [hi]) (h1 hi)
                  rwa [Option.bind_eq_some_iff] at this
                · obtain ⟨h3, h4⟩ := h2 hi
                  have := hrg (i - len) (i - len) y (List.getElem?_range (by omega)) h4
                  rw [show len + (i - len) = i by omega, Option.bind_eq_some_iff] at this
                  exact this
              have hblk : 0 < elems.length + rest.length → a.block < w.heap.size ∧ a.spot = none := by
                intro hp
                have h0 : 0 < cap := by omega
                have : ∃ y, (0 < len → elems[0]? = some y) ∧ (¬ 0 < len → 0 < cap ∧ rest[0 - len]? = some y) := by
                  by_cases hl : 0 < len
                  · exact ⟨elems[0], fun _ => List.getElem?_eq_getElem _, fun h => absurd hl h⟩
                  · exact ⟨rest[0], fun h => absurd h hl, fun _ => ⟨h0, by rw [Nat.zero_sub]; exact List.getElem?_eq_getElem _⟩⟩
                obtain ⟨y, h1, h2⟩ := this
                obtain ⟨ci, hci, -⟩ := hat 0 y h1 h2
                obtain ⟨v, -, hv⟩ := (cells_get hci).2 0 hc
                have := cell_lt hv
                rw [Nat.zero_mul] at this
                have e0 : (a.add 0).add 0 = a := by unfold Addr.add; simp
                rw [e0] at this
                exact this
              have hrd : ∀ i y, (i < len → elems[i]? = some y) → (¬ i < len → i < cap ∧ rest[i - len]? = some y) → ∃ ci, w.cells? base (a.add (i * P.cellsOf e)) (P.cellsOf e) = some ci ∧ Rd enc P w base S fuel e ci y := by
                intro i y h1 h2
                obtain ⟨ci, h3, h4⟩ := hat i y h1 h2
                exact ⟨ci, h3, ih e S hS fuel ci y h4⟩
              have hrdE : ∀ (i : Nat) y, elems[i]? = some y → ∃ ci, w.cells? base (a.add (i * P.cellsOf e)) (P.cellsOf e) = some ci ∧ Rd enc P w base S fuel e ci y :=
                fun i y hy => hrd i y (fun _ => hy) (fun h => absurd (by have := (List.getElem?_eq_some_iff.1 hy).1; omega) h)
              have hrdR : ∀ (j : Nat) y, rest[j]? = some y → ∃ ci, w.cells? base (a.add ((len + j) * P.cellsOf e)) (P.cellsOf e) = some ci ∧ Rd enc P w base S fuel e ci y :=
                fun j y hy => hrd (len + j) y (fun h => by omega) (fun _ => ⟨by have := (List.getElem?_eq_some_iff.1 hy).1; omega, by rwa [Nat.add_sub_cancel_left]⟩)
              refine ⟨?_, ?_, ?_⟩
              · obtain ⟨es, hes, heq⟩ := list_choose len (fun i (ds : List Data) => ∃ ci, w.cells? base (a.add (i * P.cellsOf e)) (P.cellsOf e) = some ci ∧ Fit S ds ∧ DenL w (fun _ => False) ds ci) fun i hi => by
                  obtain ⟨ci, h1, ⟨ds, h2, h3⟩, -, -⟩ := hrdE i _ (List.getElem?_eq_getElem (by omega))
                  exact ⟨ds, ci, h1, h2, h3⟩
                refine ⟨[.sl es], ⟨es, rfl, by omega, fun y hy => ?_⟩, denL_one ?_⟩
                · obtain ⟨i, hi⟩ := List.mem_iff_getElem?.1 hy
                  obtain ⟨ci, -, h, -⟩ := heq i y hi
                  exact h
                · by_cases hl : len = 0
                  · rw [hl] at hes ⊢
                    rw [List.eq_nil_of_length_eq_zero hes]
                    exact .sl0
                  · obtain ⟨hb1, hb2⟩ := hblk (by omega)
                    obtain ⟨b, off, spot⟩ := a
                    simp only at hb1 hb2
                    subst hb2
                    have hsz : ∀ y ∈ es, y.length = P.cellsOf e := by
                      intro y hy
                      obtain ⟨i, hi⟩ := List.mem_iff_getElem?.1 hy
                      obtain ⟨ci, h1, -, h2⟩ := heq i y hi
                      rw [← h2.1, (cells_get h1).1]
                    have hval : ∀ (i : Nat) (d : Data), es.flatten[i]? = some d → ∃ v, w.cell? ⟨b, off + i, none⟩ = some v ∧ Den w (fun _ => False) d v := by
                      intro i d hd
                      obtain ⟨y, h1, h2⟩ := flatten_at es hsz hc i d hd
                      obtain ⟨ci, h3, -, h4⟩ := heq _ y h1
                      have hm : i % P.cellsOf e < P.cellsOf e := Nat.mod_lt _ hc
                      obtain ⟨v, h5, h6⟩ := (cells_get h3).2 _ hm
                      rw [add_plain, add_plain, Nat.add_assoc, Nat.mul_comm, Nat.div_add_mod] at h6
                      exact ⟨v, h6, h4.2 _ d v h2 h5⟩
                    rw [← hes]
                    refine .sl (sz := P.cellsOf e) (fun i => (w.cell? ⟨b, off + i, none⟩).getD undef) (by omega) (by omega) hb1 (fun h => h) hsz (fun i hi => ?_) fun i d hd => ?_
                    · have hlt : i < es.flatten.length := by rw [flatten_length hsz]; exact hi
                      obtain ⟨v, hv, -⟩ := hval i _ (List.getElem?_eq_getElem hlt)
                      rw [hv]
                      rfl
                    · obtain ⟨v, hv, hd'⟩ := hval i d hd
                      rw [hv]
                      exact hd'
              · intro p hp
                simp only [List.mem_append] at hp
                rcases hp with hp | hp
                · unfold MemPlace.row at hp
                  rw [List.mem_map] at hp
                  obtain ⟨i, hi, rfl⟩ := hp
                  rw [List.mem_range] at hi
                  have : 0 < elems.length + rest.length := by
                    rcases Nat.eq_zero_or_pos (elems.length + rest.length) with h | h
                    · rw [h, Nat.zero_mul] at hi; omega
                    · exact h
                  exact (hblk this).1
                · rw [List.mem_flatMap] at hp
                  obtain ⟨y, hy, hp⟩ := hp
                  rw [List.mem_append] at hy
                  rcases hy with hy | hy
                  · obtain ⟨i, hi⟩ := List.mem_iff_getElem?.1 hy
                    obtain ⟨ci, -, h⟩ := hrdE i y hi
                    exact h.2.1 p hp
                  · obtain ⟨i, hi⟩ := List.mem_iff_getElem?.1 hy
                    obtain ⟨ci, -, h⟩ := hrdR i y hi
                    exact h.2.1 p hp
              · intro w' sp hsp hk
                rw [key]
                simp only
                rw [if_pos hb]
                have hrow : 0 < elems.length + rest.length → sp a.block = true := by
                  intro hp
                  have := hsp (.cell a.block (a.off + 0)) (by
                    rw [List.mem_append]
                    left
                    unfold MemPlace.row
                    rw [List.mem_map]
                    exact ⟨0, by rw [List.mem_range]; exact Nat.mul_pos hp hc, rfl⟩)
                  exact this
                have hmE : (List.range len).mapM (fun i => (w'.cells? base (a.add (i * P.cellsOf e)) (P.cellsOf e)).bind (DataW.trod enc P w' base sp true fuel e)) = some elems := by
                  rw [← he]
                  refine mapM_congr fun i hi => ?_
                  rw [List.mem_range] at hi
                  have hy := List.getElem?_eq_getElem (l := elems) (i := i) (by omega)
                  obtain ⟨ci, h1, h2⟩ := hrdE i _ hy
                  rw [cells_keep h1 hk, h1]
                  simp only [Option.bind_some]
                  obtain ⟨ci', h3, h4⟩ := hat i _ (fun _ => hy) (fun h => absurd hi h)
                  rw [h1] at h3
                  cases h3
                  rw [h4]
                  exact h2.2.2 w' sp (fun p hp => hsp p (by
                    rw [List.mem_append]; right
                    rw [List.mem_flatMap]
                    exact ⟨_, List.mem_append.2 (.inl (List.mem_of_getElem? hy)), hp⟩)) hk
                have hmR : (List.range (cap - len)).mapM (fun j => (w'.cells? base (a.add ((len + j) * P.cellsOf e)) (P.cellsOf e)).bind (DataW.trod enc P w' base sp true fuel e)) = some rest := by
                  rw [← hr]
                  refine mapM_congr fun j hj => ?_
                  rw [List.mem_range] at hj
                  have hy := List.getElem?_eq_getElem (l := rest) (i := j) (by omega)
                  obtain ⟨ci, h1, h2⟩ := hrdR j _ hy
                  rw [cells_keep h1 hk, h1]
                  simp only [Option.bind_some]
                  obtain ⟨ci', h3, h4⟩ := hat (len + j) rest[j] (fun h => by omega) (fun _ => ⟨by omega, by rw [Nat.add_sub_cancel_left]; exact hy⟩)
                  rw [h1] at h3
                  cases h3
                  rw [h4]
                  exact h2.2.2 w' sp (fun p hp => hsp p (by
                    rw [List.mem_append]; right
                    rw [List.mem_flatMap]
                    exact ⟨_, List.mem_append.2 (.inr (List.mem_of_getElem? hy)), hp⟩)) hk
                rw [hmE]
                simp only [Option.bind_some]
                cases hs : sp a.block with
                | true => simp only [if_true]; rw [hmR]; rfl
                | false =>
                  have hz : ¬ 0 < elems.length + rest.length := fun h => by rw [hrow h] at hs; cases hs
                  have : rest = [] := List.eq_nil_of_length_eq_zero (by omega)
                  subst this
                  rfl
            · cases hx
          · cases hx
        · cases hS
      · -- struct
        rename_i fs hu
        split at hS
        · rename_i ht
          rw [Option.map_eq_some_iff] at hS
          obtain ⟨l, hl, rfl⟩ := hS
          have key : ∀ (w' : World) (sp : Nat → Bool), DataW.trod enc P w' base sp true (fuel + 1) t cs =
              if cs.length = P.cellsOf t then (fs.toList.mapM fun f => DataW.trod enc P w' base sp true fuel f.type ((cs.drop f.offset).take (P.cellsOf f.type))).map fun xs => (.agg (xs.map (·.1)), xs.flatMap (·.2)) else none := by
            intro w' sp
            conv => lhs; unfold DataW.trod
            rw [hu]
          rw [key] at hx
          split at hx
          · rename_i hlen
            rw [Option.map_eq_some_iff] at hx
            obtain ⟨xs, hxs, rfl⟩ := hx
            rw [← hlen] at ht
            obtain ⟨h1, h2, h3⟩ := read_fields (fun t S h cs x hx => ih t S h fuel cs x hx) cs fs.toList 0 l xs hl ht hxs
            refine ⟨?_, h2, fun w' sp hsp hk => ?_⟩
            · obtain ⟨ds, hf, hd⟩ := h1
              exact ⟨ds, hf, by simpa using hd⟩
            · rw [key, if_pos hlen, h3 w' sp hsp hk]
              rfl
          · cases hx
        · cases hS
      · cases hS
end
end Go.Mini
