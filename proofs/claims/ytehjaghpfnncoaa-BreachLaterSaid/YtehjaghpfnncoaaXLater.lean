/- BreachLater: the statement's function answers true, and leaves its arguments as they were. No condition. -/
import Derived.Test.YtehjaghpfnncoaaRows
import Derived.Test.YtehjaghpfnncoaaMiniBr8
import Derived.Test.YtehjaghpfnncoaaMiniBr7L
import Derived.KernelRfl
set_option linter.unusedSimpArgs false
set_option linter.unusedVariables false
namespace Go.Proofs.Ytehjaghpfnncoaa.breachLater
open Go.ChangeShapes Go.WideShapes Go.ChangeAt Go.RowKit Go.Mini

theorem own : ownKnob Try.prog.godebug = none := by kernel_rfl
theorem schs : Try.f5.params.toList.mapM (schOf Try.prog 9) = some [.sl (.int .u8), .sl (.int .u8), .int .u8, .int .u8] := by kernel_rfl
theorem res : Try.f5.resultTypes = #[4] := by kernel_rfl
theorem fits (Ds : List Mini.Data) (h : FitAs [.sl (.int .u8), .sl (.int .u8), .int .u8, .int .u8] Ds) : F_Later Ds = some (.same (.bool true)) := by
  obtain ⟨_, _, rfl, ⟨es, e1, -, h1⟩, _, _, rfl, ⟨es2, e2, -, h2⟩, _, _, rfl, ⟨c, e3, w3⟩, _, _, rfl, ⟨d, e4, w4⟩, rfl⟩ := h
  cases e1; cases e2; cases e3; cases e4
  obtain ⟨l, rfl, h8⟩ := fit_u8 h1
  obtain ⟨o, rfl, h8'⟩ := fit_u8 h2
  exact F_Later_eq l o c d ⟨h8, h8', wf_u8 w3, wf_u8 w4⟩
theorem spec {H : Type} (ds : List (DataW H)) (h0 : ds.length = Try.f5.params.toList.length) : Rows.breachLaterSpec.fn H ds = { results := [.lit (.bool true)], args := ds } := by
  have h : ds.length = 4 := h0.trans (by kernel_rfl)
  obtain ⟨d0, t0, rfl, l0⟩ := len_cons (n := 3) h
  obtain ⟨d1, t1, rfl, l1⟩ := len_cons (n := 2) l0
  obtain ⟨d2, t2, rfl, l2⟩ := len_cons (n := 1) l1
  obtain ⟨d3, t3, rfl, l3⟩ := len_cons (n := 0) l2
  obtain rfl := List.eq_nil_of_length_eq_zero l3
  rfl

set_option maxRecDepth 100000 in
theorem lifted (os : Os) (started : os.Started) (H : Type) (enc : TypeId × Value → H) :
    ReturnsInHanded {} Try.checked os 5 .any (Rows.breachLaterSpec.pre6 enc Try.prog Try.f5 Rows.breachLaterRow.domain false) (Rows.breachLaterSpec.post enc Try.prog Try.f5 false true false false) := by
  refine returnsInHanded_of_change (C := Try.checked) own started (by kernel_rfl) Try.func5
    (ChangeSpec.witness6 (enc := enc) (C := Try.checked) false ⟨#[], #[.slice none 0 0, .slice none 0 0, .int .u8 0, .int .u8 0], []⟩ 8 (by kernel_rfl) (by kernel_rfl) (by kernel_rfl) (by kernel_rfl)) ?_
  intro W base args ds gs before hval hW _ _
  exact law_contract ps_Later rfl schs res Try.underlying4 spec fits hval hW

theorem said : Rows.BreachLaterSaid :=
  OpenClaim.holds_of_wide 5 Try.f5 rfl rfl rfl rfl rfl rfl rfl ⟨rfl, rfl, rfl, rfl, rfl⟩ rfl rfl rfl rfl rfl (by kernel_rfl) Try.func5 (by kernel_rfl)
    (of_decide_eq_true (by kernel_rfl)) (by unfold Func.isWrapper; first | (rw [if_pos (by decide +kernel)]; kernel_rfl) | (rw [if_neg (by decide +kernel)]; exact ⟨rfl, rfl⟩))
    (fun os started H enc _ => lifted os started H enc)

end Go.Proofs.Ytehjaghpfnncoaa.breachLater

namespace Go.Proofs.Ytehjaghpfnncoaa
theorem breachLater_holds : Rows.BreachLaterSaid := breachLater.said
end Go.Proofs.Ytehjaghpfnncoaa
