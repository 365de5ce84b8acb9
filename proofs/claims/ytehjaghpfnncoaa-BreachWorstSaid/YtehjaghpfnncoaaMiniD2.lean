/- One operation of an activation, and the model's. -/
import Derived.Test.YtehjaghpfnncoaaMiniD1
set_option linter.unusedSimpArgs false
set_option linter.unusedVariables false
namespace Go.Mini
open Go
variable {P : Program} {T : Tab} {A : Nat → Prop} {w0 w : World} {B0 B : Lay} {mem : Mem} {n : Nat}

structure Sim (n : Nat) (A : Nat → Prop) (w0 : World) (B0 : Lay) (a : Act) (st : St) (w : World) (B : Lay) : Prop where
  ok : StepOK A w0 B0 w B st.mem
  tm : ∀ s, VR w (OA A B) B (st.tm s) (a.eval (.tmp s))
  sz : a.tmps.size = n
  df : a.defers = []

theorem Sim.rho {a : Act} {st : St} (h : Sim n A w0 B0 a st w B) (x : Operand) (y : Opd) (hx : trOpd x = some y) : VR w (OA A B) B (ev st.tm y) (a.eval x) := by
  cases x <;> simp only [trOpd, Option.some.injEq, Option.map_eq_some_iff, reduceCtorEq] at hx
  · subst hx
    exact h.tm _
  · obtain ⟨m, hm, rfl⟩ := hx
    exact cst_rel hm
  · subst hx
    exact .clo (vs := []) rfl fun i d v h1 => by simp at h1

theorem eval_put_same {a : Act} {s : Nat} {v : Value} (h : s < a.tmps.size) : (a.put (some s) v).eval (.tmp s) = v := by
  simp [Act.eval, Act.put, h]

theorem Sim.put {a : Act} {st : St} {w' : World} {B' : Lay} {mem' : Mem} {dst : Option Nat} {r : MV} {v : Value} (h : Sim n A w0 B0 a st w B) (hs : StepOK A w B w' B' mem') (hr : VR w' (OA A B') B' r v)
    (hd : dst.all (fun d => decide (d < n)) = true) : Sim n A w0 B0 (a.put dst v) ⟨Mini.put st.tm dst r, mem'⟩ w' B' := by
  refine ⟨h.ok.trans hs, fun s => ?_, ?_, ?_⟩
  · cases dst with
    | none => exact (h.tm s).keep hs.tr
    | some d =>
      simp only [Option.all_some, decide_eq_true_eq] at hd
      by_cases hsd : s = d
      · subst hsd
        rw [eval_put_same (by rw [h.sz]; exact hd)]
        simp only [Mini.put, upd, if_true]
        exact hr
      · rw [Act.eval_put (fun d' h1 h2 => by cases h1; cases h2; exact hsd rfl)]
        simp only [Mini.put, upd, if_neg hsd]
        exact (h.tm s).keep hs.tr
  · cases dst <;> simp [Act.put, h.sz]
  · cases dst <;> simp [Act.put, h.df]

/-- The guard. -/
theorem wanted_of {a : Act} {st : St} {ops : Array Oper} {o : Oper} {g : Option (Nat × Bool)} {b : Bool} (h : Sim n A w0 B0 a st w B) (hg : trGuard ops o.guard = some g) (hb : guardB st.tm g = some b) :
    Region.wanted o (yielded ops a.tmps) = b := by
  unfold Region.wanted
  cases hgd : o.guard with
  | none =>
    rw [hgd] at hg
    simp only [trGuard, Option.some.injEq] at hg
    subst hg
    simp only [guardB, Option.some.injEq] at hb
    exact hb
  | some p =>
    obtain ⟨j, c⟩ := p
    rw [hgd] at hg
    simp only [trGuard] at hg
    split at hg
    · rename_i s hs
      simp only [Option.some.injEq] at hg
      subst hg
      have hv := h.tm s
      have hy : yielded ops a.tmps j = match a.eval (.tmp s) with | .bool b => some b | _ => none := by
        unfold yielded
        rw [hs]
        simp only [Option.bind_some, Act.eval, Array.getD_eq_getD_getElem?]
        cases a.tmps[s]? with
        | none => rfl
        | some v => cases v <;> rfl
      simp only [guardB] at hb
      simp only [hy]
      split at hb
      · rename_i t ht
        rw [ht] at hv
        cases hv with
        | dat hv =>
          generalize a.eval (.tmp s) = u at *
          cases hv
          simp only [Option.some.injEq] at hb
          subst hb
          cases t <;> cases c <;> simp
      · rename_i ht
        rw [ht] at hv
        generalize a.eval (.tmp s) = u at *
        cases hv
        simp only [Option.some.injEq] at hb
        subst hb
        rfl
      · cases hb
    · cases hg

theorem trOp_call {kb : Nat} {own : List Nat} {dst : Option Nat} {ty : TypeId} {op : Op} {f : FuncId} {args : List Opd} (h : trOp P kb own dst ty op = some (.call f args)) :
    ∃ c : Call, op = .call c ∧ c.callee = .value (.func f) ∧ c.args.toList.mapM trOpd = some args := by
  cases op <;> simp only [trOp, trBin, trEqs] at h
  case call c =>
    refine ⟨c, rfl, ?_⟩
    unfold trCall at h
    (repeat' split at h) <;> simp_all [Option.bind_eq_some_iff, Option.map_eq_some_iff]
  all_goals ((repeat' split at h) <;> simp_all [Option.bind_eq_some_iff, Option.map_eq_some_iff])

theorem trOp_callo {kb : Nat} {own : List Nat} {dst : Option Nat} {ty : TypeId} {op : Op} {f : FuncId} {k : Key} {sz : Nat} {args : List Opd} (h : trOp P kb own dst ty op = some (.callo k sz f args)) :
    ∃ c : Call, op = .call c ∧ c.callee = .value (.func f) ∧ c.args.toList.mapM trOpd = some args := by
  cases op <;> simp only [trOp, trBin, trEqs] at h
  case call c =>
    refine ⟨c, rfl, ?_⟩
    unfold trCall at h
    (repeat' split at h) <;> simp_all [Option.bind_eq_some_iff, Option.map_eq_some_iff]
    obtain ⟨_, _, _, _, _, h1, _, _, rfl, rfl⟩ := h
    exact ⟨rfl, h1⟩
  all_goals ((repeat' split at h) <;> simp_all [Option.bind_eq_some_iff, Option.map_eq_some_iff])

theorem trOp_callv {kb : Nat} {own : List Nat} {dst : Option Nat} {ty : TypeId} {op : Op} {f : Opd} {args : List Opd} (h : trOp P kb own dst ty op = some (.callv f args)) :
    ∃ (c : Call) (x : Operand), op = .call c ∧ c.callee = .value x ∧ trOpd x = some f ∧ c.args.toList.mapM trOpd = some args := by
  cases op <;> simp only [trOp, trBin, trEqs] at h
  case call c =>
    refine ⟨c, ?_⟩
    unfold trCall at h
    (repeat' split at h) <;> simp_all [Option.bind_eq_some_iff, Option.map_eq_some_iff]
  all_goals ((repeat' split at h) <;> simp_all [Option.bind_eq_some_iff, Option.map_eq_some_iff])

theorem trOp_isnil {kb : Nat} {own : List Nat} {dst : Option Nat} {ty : TypeId} {op : Op} {neg : Bool} {x : Opd} (h : trOp P kb own dst ty op = some (.isnil neg x)) :
    ∃ (t e : TypeId) (y y' : Operand) (z : TypeId), op = .binOp (if neg then .neq else .eql) t y y' z ∧ isNilC y' = true ∧ P.underlying t = some (.slice e) ∧ trOpd y = some x := by
  cases op <;> simp only [trOp, trBin, trEqs] at h
  case call c =>
    unfold trCall at h
    (repeat' split at h) <;> simp_all [Option.bind_eq_some_iff, Option.map_eq_some_iff]
  case binOp bop t y y' z =>
    (repeat' split at h) <;> simp_all [Option.bind_eq_some_iff, Option.map_eq_some_iff]
    all_goals
      obtain ⟨h1, rfl⟩ := h
      exact ⟨_, _, _, _, ⟨rfl, rfl, rfl⟩, by assumption, by assumption, h1⟩
  all_goals ((repeat' split at h) <;> simp_all [Option.bind_eq_some_iff, Option.map_eq_some_iff])

end Go.Mini
