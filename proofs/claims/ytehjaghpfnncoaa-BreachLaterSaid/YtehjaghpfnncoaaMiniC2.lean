/- Operations on values alone: what the model does is what the small semantics says. -/
import Derived.Test.YtehjaghpfnncoaaMiniC1
import Derived.Laws.Strings
import Derived.Laws.Strings2
import Derived.Laws.StructEq
import Derived.Laws.Slices
namespace Go.Mini
open Go
set_option linter.unusedSimpArgs false

section
variable {P : Program} {w : World} {O : Nat → Prop} {B : Lay}

theorem VR.int_inv {k : IntKind} {n : Int} {v : Value} (h : VR w O B (.dat (.int k n)) v) : v = .int k n := by
  cases h with
  | dat h => cases h; rfl
theorem VR.bool_inv {b : Bool} {v : Value} (h : VR w O B (.dat (.bool b)) v) : v = .bool b := by
  cases h with
  | dat h => cases h; rfl
theorem VR.str_inv {s : List UInt8} {v : Value} (h : VR w O B (.dat (.str s)) v) : v = .string ⟨s.toArray⟩ := by
  cases h with
  | dat h => cases h; rfl
theorem VR.ofInt {k : IntKind} {n : Int} : VR w O B (.dat (.int k n)) (.int k n) := .dat .int
theorem VR.ofBool {b : Bool} : VR w O B (.dat (.bool b)) (.bool b) := .dat .bool

theorem binI_run {op : BinOp} {k : IntKind} {a b : Int} {d : Data} (t : TypeId) (hs : isShift op = false) (h : binI op k a b = some d) :
    ∃ v, (binOp op t (.int k a) (.int k b)).run P w = .ok v w ∧ Den w O d v := by
  cases op <;> simp only [binI, Option.some.injEq, reduceCtorEq] at h <;> simp only [isShift, Bool.true_eq_false] at hs
  case quo =>
    split at h
    · cases h
    · rename_i hb
      cases h
      exact ⟨_, by simp [go_sem, Op.intDiv, hb], .int⟩
  case rem =>
    split at h
    · cases h
    · rename_i hb
      cases h
      exact ⟨_, by simp [go_sem, Op.intDiv, hb], .int⟩
  all_goals
    subst h
    first
      | exact ⟨_, by simp [go_sem, Op.intArith], .int⟩
      | exact ⟨_, by simp [go_sem], .int⟩
      | exact ⟨_, by simp [go_sem], .bool⟩

theorem shI_run {op : BinOp} {k k' : IntKind} {a b : Int} {d : Data} (t : TypeId) (hs : isShift op = true) (h : shI op k a b = some d) :
    ∃ v, (binOp op t (.int k a) (.int k' b)).run P w = .ok v w ∧ Den w O d v := by
  unfold shI at h
  split at h
  · cases h
  · rename_i hb
    cases op <;> simp only [isShift, Bool.false_eq_true] at hs
    · simp only [Option.some.injEq] at h
      subst h
      exact ⟨.int k _, by simp [binOp, Op.shift, hb], .int⟩
    · simp only [Option.some.injEq] at h
      subst h
      exact ⟨.int k _, by simp [binOp, Op.shift, hb], .int⟩

theorem eqGuard_plain {op : BinOp} {t : TypeId} {x y : Operand} {u v : Value} (h1 : u ≠ .nilIface) (h2 : ∀ c, u ≠ .agg c) : eqGuard op t x y u v = pure () := by
  unfold eqGuard
  cases op <;> cases u <;> first | rfl | exact absurd rfl h1 | exact absurd rfl (h2 _)

theorem binS_run {op : BinOp} {a b : List UInt8} {d : Data} (t : TypeId) (h : binS op a b = some d) :
    ∃ v, (binOp op t (.string ⟨a.toArray⟩) (.string ⟨b.toArray⟩)).run P w = .ok v w ∧ Den w O d v := by
  have hbin : binOp op t (.string ⟨a.toArray⟩) (.string ⟨b.toArray⟩) = Op.stringOp op ⟨a.toArray⟩ ⟨b.toArray⟩ := by
    cases op <;> rfl
  rw [hbin]
  cases op <;> simp only [binS, Option.some.injEq, reduceCtorEq] at h
  case add =>
    split at h
    · rename_i hl
      cases h
      refine ⟨.string ⟨(a ++ b).toArray⟩, ?_, .str⟩
      have hl' : ¬ (9223372036854775807 < (a.length : Int) + (b.length : Int)) := by unfold maxLen at hl; omega
      have e1 : (ByteArray.mk a.toArray).size = a.length := by simp [ByteArray.size]
      have e2 : (ByteArray.mk b.toArray).size = b.length := by simp [ByteArray.size]
      have happ : (ByteArray.mk a.toArray) ++ (ByteArray.mk b.toArray) = ⟨(a ++ b).toArray⟩ := by
        apply ByteArray.ext
        simp
      simp [Op.stringOp, e1, e2, hl', happ]
    · cases h
  all_goals
    subst h
    exact ⟨_, by simp [Op.stringOp], .bool⟩

theorem binM_run {op : BinOp} {m n r : MV} {u v : Value} (t : TypeId) (x y : Operand) (hm : VR w O B m u) (hn : VR w O B n v) (h : binM op m n = some r) :
    ∃ z, ((do eqGuard op t x y u v; binOp op t u v : Sem Value)).run P w = .ok z w ∧ VR w O B r z := by
  unfold binM at h
  split at h
  · rename_i k a k' b
    cases hm.int_inv
    cases hn.int_inv
    rw [eqGuard_plain (by simp) (by simp)]
    split at h
    · rename_i hs
      simp only [Option.map_eq_some_iff] at h
      obtain ⟨d, hd, rfl⟩ := h
      obtain ⟨z, h1, h2⟩ := shI_run (P := P) (w := w) (O := O) (k' := k') t hs hd
      exact ⟨z, by simpa using h1, .dat h2⟩
    · rename_i hs
      split at h
      · rename_i hk
        subst hk
        simp only [Option.map_eq_some_iff] at h
        obtain ⟨d, hd, rfl⟩ := h
        obtain ⟨z, h1, h2⟩ := binI_run (P := P) (w := w) (O := O) t (by simpa using hs) hd
        exact ⟨z, by simpa using h1, .dat h2⟩
      · cases h
  · rename_i a b
    cases hm.str_inv
    cases hn.str_inv
    rw [eqGuard_plain (by simp) (by simp)]
    simp only [Option.map_eq_some_iff] at h
    obtain ⟨d, hd, rfl⟩ := h
    obtain ⟨z, h1, h2⟩ := binS_run (P := P) (w := w) (O := O) t hd
    exact ⟨z, by simpa using h1, .dat h2⟩
  · cases h

theorem beqM_run {neg : Bool} {m n r : MV} {u v : Value} (t : TypeId) (x y : Operand) (ht : P.underlying t = some .bool) (hm : VR w O B m u) (hn : VR w O B n v) (h : beqM neg m n = some r) :
    ∃ z, ((do eqGuard (if neg then .neq else .eql) t x y u v; binOp (if neg then .neq else .eql) t u v : Sem Value)).run P w = .ok z w ∧ VR w O B r z := by
  unfold beqM at h
  split at h
  · rename_i a b
    cases hm.bool_inv
    cases hn.bool_inv
    cases h
    rw [eqGuard_plain (by simp) (by simp)]
    cases neg
    · exact ⟨.bool (a == b), by simp [run_eql_bool w t a b ht], by cases a <;> cases b <;> exact .dat .bool⟩
    · exact ⟨.bool (!(a == b)), by simp [run_neq_bool w t a b ht], by cases a <;> cases b <;> exact .dat .bool⟩
  · cases h

theorem kindT_run {t : TypeId} {k : Nat} {m n : MV} {c : Bool} {u v : Value} (d : Nat) (hk : kindT P t = some k) (hm : VR w O B m u) (hn : VR w O B n v) (h : eqCell k m n = some c) :
    (Op.equalIn (d + 1) t u v).run P w = .ok c w := by
  unfold kindT at hk
  unfold eqCell at h
  split at h
  · simp only [Option.some.injEq] at h
    cases hm.bool_inv
    cases hn.bool_inv
    subst h
    split at hk <;> first | (exfalso; simp at hk; done) | (rename_i hu; exact run_equalIn_bool w d t _ _ hu)
  · split at h
    · rename_i hkk
      subst hkk
      cases hm.int_inv
      cases hn.int_inv
      cases h
      split at hk <;> first | (exfalso; simp at hk; done) | (rename_i hu; exact run_equalIn_int w d t _ _ _ _ hu)
    · cases h
  · simp only [Option.some.injEq] at h
    cases hm.str_inv
    cases hn.str_inv
    subst h
    split at hk <;> first | (exfalso; simp at hk; done) | (rename_i hu; rw [run_equalIn_string w d t _ _ hu]; simp)
  · cases h

theorem kindT_notAgg {t : TypeId} {k : Nat} (h : kindT P t = some k) : (isAgg t).run P w = .ok false w := by
  unfold kindT at h
  split at h <;> simp only [Option.some.injEq, reduceCtorEq] at h <;> (rename_i hu; simp [isAgg, run_underlying hu])

theorem eqFields_run {d : Nat} {xs ys : Array Value} {cs ds : List MV} (hx : ∀ (i : Nat) (m : MV) (v : Value), cs[i]? = some m → xs[i]? = some v → VR w O B m v) (hxl : xs.size = cs.length)
    (hy : ∀ (i : Nat) (m : MV) (v : Value), ds[i]? = some m → ys[i]? = some v → VR w O B m v) (hyl : ys.size = ds.length) :
    ∀ (fs : List Field) (i : Nat) (ks : List Nat) (c : Bool), kindFields P i fs = some ks → eqCells ks (cs.drop i) (ds.drop i) = some c → (Op.eqFields (d + 1) xs ys fs).run P w = .ok c w
  | [], i, ks, c, hf, hc => by
    simp [kindFields] at hf
    subst hf
    cases h1 : cs.drop i <;> cases h2 : ds.drop i <;> simp [h1, h2, eqCells] at hc
    subst hc
    simp [Op.eqFields]
  | f :: r, i, ks, c, hf, hc => by
    simp only [kindFields] at hf
    split at hf
    · rename_i hn
      obtain ⟨hn1, hn2⟩ := hn
      split at hf
      · rename_i k ks' hk hks
        cases hf
        cases h1 : cs.drop i with
        | nil => simp [h1, eqCells] at hc
        | cons a x =>
          cases h2 : ds.drop i with
          | nil => simp [h1, h2, eqCells] at hc
          | cons b y =>
            rw [h1, h2] at hc
            simp only [eqCells] at hc
            split at hc
            · rename_i c1 c2 hc1 hc2
              cases hc
              have hi1 : i < cs.length := by
                rcases Nat.lt_or_ge i cs.length with h | h
                · exact h
                · rw [List.drop_eq_nil_of_le h] at h1; cases h1
              have hi2 : i < ds.length := by
                rcases Nat.lt_or_ge i ds.length with h | h
                · exact h
                · rw [List.drop_eq_nil_of_le h] at h2; cases h2
              rw [List.drop_eq_getElem_cons hi1] at h1
              rw [List.drop_eq_getElem_cons hi2] at h2
              injection h1 with ha hxx
              injection h2 with hb hyy
              subst ha; subst hb; subst hxx; subst hyy
              have ex : xs[f.offset]? = some (xs[i]'(by omega)) := by rw [hn2]; exact Array.getElem?_eq_getElem (by omega)
              have ey : ys[f.offset]? = some (ys[i]'(by omega)) := by rw [hn2]; exact Array.getElem?_eq_getElem (by omega)
              have rx := hx i _ _ (List.getElem?_eq_getElem hi1) (Array.getElem?_eq_getElem (by omega : i < xs.size))
              have ry := hy i _ _ (List.getElem?_eq_getElem hi2) (Array.getElem?_eq_getElem (by omega : i < ys.size))
              have he := kindT_run (P := P) d hk rx ry hc1
              have ih := eqFields_run (d := d) hx hxl hy hyl r (i + 1) ks' c2 hks hc2
              have hagg : (isAgg f.type).run P w = .ok false w := kindT_notAgg hk
              simp only [Op.eqFields, hn1, ne_eq, not_false_eq_true, if_true, Sem.run_bind, part, hagg, Result.andThen_ok, Bool.false_eq_true, if_false, ex, ey, Sem.run_pure, he]
              cases c1
              · simp
              · simp [ih]
            · cases hc
      · cases hf
    · cases hf

/-- A value that lies in one cell. -/
theorem one_rel {m : MV} {v : Value} (h : VR w O B m v) (h1 : m.one = true) : v.oneCell' = true := by
  cases h with
  | dat hd => cases hd <;> first | rfl | simp [MV.one] at h1
  | nil => rfl
  | ref he hg hv => obtain ⟨a, cap, rfl, _⟩ := hv; rfl
  | ptr he hg hv => obtain ⟨b, rfl, _⟩ := hv; rfl
  | clo hl hd => rfl
  | agg hl hd => simp [MV.one] at h1
  | tup hl hd => simp [MV.one] at h1
  | no => simp [MV.one] at h1
  | undef => simp [MV.one] at h1

theorem cells_one {v : Value} (h : ∀ c, v ≠ .agg c) : v.cells = #[v] := by
  unfold Value.cells
  split
  · rename_i cs; exact absurd rfl (h cs)
  · rfl

/-- The cells of a value, as the model has them. -/
theorem cells_rel {m : MV} {v : Value} (h : VR w O B m v) (hu : m ≠ .undef) : v.cells.size = m.cells.length ∧ ∀ (i : Nat) (c : MV) (u : Value), m.cells[i]? = some c → v.cells[i]? = some u → VR w O B c u := by
  have one : (∀ c, v ≠ .agg c) → m.cells = [m] → v.cells.size = m.cells.length ∧ ∀ (i : Nat) (c : MV) (u : Value), m.cells[i]? = some c → v.cells[i]? = some u → VR w O B c u := by
    intro hv hm
    rw [hm, cells_one hv]
    refine ⟨rfl, fun i c u hc hu => ?_⟩
    cases i with
    | zero => simp at hc hu; subst hc; subst hu; exact h
    | succ i => simp at hc
  cases h with
  | dat hd =>
    cases hd with
    | agg hl hd =>
      refine ⟨by simp [Value.cells, MV.cells]; exact hl, fun i c u hc hu => ?_⟩
      simp only [MV.cells, List.getElem?_map, Option.map_eq_some_iff] at hc
      obtain ⟨d, hd', rfl⟩ := hc
      exact .dat (hd i d u hd' (by simpa [Value.cells] using hu))
    | _ => exact one (by simp) rfl
  | nil => exact one (by simp) rfl
  | ref he hg hv => obtain ⟨a, cap, rfl, _⟩ := hv; exact one (by simp) rfl
  | ptr he hg hv => obtain ⟨b, rfl, _⟩ := hv; exact one (by simp) rfl
  | clo hl hd => exact one (by simp) rfl
  | agg hl hd =>
    refine ⟨by simp [Value.cells, MV.cells]; exact hl, fun i c u hc hu => hd i c u (by simpa [MV.cells] using hc) (by simpa [Value.cells] using hu)⟩
  | tup hl hd => exact one (by simp) rfl
  | no => exact one (by simp [undef]) rfl
  | undef => exact absurd rfl hu
end
end Go.Mini
