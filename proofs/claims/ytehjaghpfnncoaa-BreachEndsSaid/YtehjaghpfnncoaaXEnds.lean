/- BreachEnds: the statement's function answers true, and leaves its arguments as they were. No condition. -/
import Derived.Test.YtehjaghpfnncoaaRows
import Derived.Test.YtehjaghpfnncoaaMiniBr8
import Derived.Test.YtehjaghpfnncoaaMiniBr7E
import Derived.KernelRfl
set_option linter.unusedSimpArgs false
set_option linter.unusedVariables false
namespace Go.Proofs.Ytehjaghpfnncoaa.breachEnds
open Go.ChangeShapes Go.WideShapes Go.ChangeAt Go.RowKit Go.Mini

theorem own : ownKnob Try.prog.godebug = none := by kernel_rfl
theorem schs : Try.f6.params.toList.mapM (schOf Try.prog 9) = some [.int .i64, .int .i64, .int .u8, .int .u8, .int .i64] := by kernel_rfl
theorem res : Try.f6.resultTypes = #[4] := by kernel_rfl
theorem fits (Ds : List Mini.Data) (h : FitAs [.int .i64, .int .i64, .int .u8, .int .u8, .int .i64] Ds) : F_Ends Ds = some (.same (.bool true)) := by
  obtain ⟨_, _, rfl, ⟨a, e1, -⟩, _, _, rfl, ⟨b, e2, -⟩, _, _, rfl, ⟨c, e3, w3⟩, _, _, rfl, ⟨d, e4, w4⟩, _, _, rfl, ⟨e, e5, -⟩, rfl⟩ := h
  cases e1; cases e2; cases e3; cases e4; cases e5
  exact F_Ends_eq a b c d e ⟨wf_u8 w3, wf_u8 w4⟩
theorem spec {H : Type} (ds : List (DataW H)) (h0 : ds.length = Try.f6.params.toList.length) : Rows.breachEndsSpec.fn H ds = { results := [.lit (.bool true)], args := ds } := by
  have h : ds.length = 5 := h0.trans (by kernel_rfl)
  obtain ⟨d0, t0, rfl, l0⟩ := len_cons (n := 4) h
  obtain ⟨d1, t1, rfl, l1⟩ := len_cons (n := 3) l0
  obtain ⟨d2, t2, rfl, l2⟩ := len_cons (n := 2) l1
  obtain ⟨d3, t3, rfl, l3⟩ := len_cons (n := 1) l2
  obtain ⟨d4, t4, rfl, l4⟩ := len_cons (n := 0) l3
  obtain rfl := List.eq_nil_of_length_eq_zero l4
  rfl

set_option maxRecDepth 100000 in
theorem lifted (os : Os) (started : os.Started) (H : Type) (enc : TypeId × Value → H) :
    ReturnsInHanded {} Try.checked os 6 .any (Rows.breachEndsSpec.pre6 enc Try.prog Try.f6 Rows.breachEndsRow.domain false) (Rows.breachEndsSpec.post enc Try.prog Try.f6 false true false false) := by
  refine returnsInHanded_of_change (C := Try.checked) own started (by kernel_rfl) Try.func6
    (ChangeSpec.witness6 (enc := enc) (C := Try.checked) false ⟨#[], #[.int .i64 0, .int .i64 0, .int .u8 0, .int .u8 0, .int .i64 0], []⟩ 8 (by kernel_rfl) (by kernel_rfl) (by kernel_rfl) (by kernel_rfl)) ?_
  intro W base args ds gs before hval hW _ _
  exact law_contract ps_Ends rfl schs res Try.underlying4 spec fits hval hW

theorem said : Rows.BreachEndsSaid :=
  OpenClaim.holds_of_wide 6 Try.f6 rfl rfl rfl rfl rfl rfl rfl ⟨rfl, rfl, rfl, rfl, rfl⟩ rfl rfl rfl rfl rfl (by kernel_rfl) Try.func6 (by kernel_rfl)
    (of_decide_eq_true (by kernel_rfl)) (by unfold Func.isWrapper; first | (rw [if_pos (by decide +kernel)]; kernel_rfl) | (rw [if_neg (by decide +kernel)]; exact ⟨rfl, rfl⟩))
    (fun os started H enc _ => lifted os started H enc)

end Go.Proofs.Ytehjaghpfnncoaa.breachEnds

namespace Go.Proofs.Ytehjaghpfnncoaa
theorem breachEnds_holds : Rows.BreachEndsSaid := breachEnds.said
end Go.Proofs.Ytehjaghpfnncoaa
