/- BreachStory: the statement's function answers true, and leaves its arguments as they were. No condition. -/
import Derived.Test.YtehjaghpfnncoaaRows
import Derived.Test.YtehjaghpfnncoaaMiniBr8
import Derived.Test.YtehjaghpfnncoaaMiniBr7S
import Derived.KernelRfl
set_option linter.unusedSimpArgs false
set_option linter.unusedVariables false
namespace Go.Proofs.Ytehjaghpfnncoaa.breachStory
open Go.ChangeShapes Go.WideShapes Go.ChangeAt Go.RowKit Go.Mini

theorem own : ownKnob Try.prog.godebug = none := by kernel_rfl
theorem schs : Try.f4.params.toList.mapM (schOf Try.prog 9) = some [.sl (.int .u8), .int .u8, .int .u16] := by kernel_rfl
theorem res : Try.f4.resultTypes = #[4] := by kernel_rfl
theorem fits (Ds : List Mini.Data) (h : FitAs [.sl (.int .u8), .int .u8, .int .u16] Ds) : F_Story Ds = some (.same (.bool true)) := by
  obtain ⟨_, _, rfl, ⟨es, e1, -, h1⟩, _, _, rfl, ⟨b, e2, w2⟩, _, _, rfl, ⟨c, e3, w3⟩, rfl⟩ := h
  cases e1; cases e2; cases e3
  obtain ⟨l, rfl, h8⟩ := fit_u8 h1
  exact F_Story_eq l b c ⟨h8, wf_u8 w2, wf_u16 w3⟩
theorem spec {H : Type} (ds : List (DataW H)) (h0 : ds.length = Try.f4.params.toList.length) : Rows.breachStorySpec.fn H ds = { results := [.lit (.bool true)], args := ds } := by
  have h : ds.length = 3 := h0.trans (by kernel_rfl)
  obtain ⟨d0, t0, rfl, l0⟩ := len_cons (n := 2) h
  obtain ⟨d1, t1, rfl, l1⟩ := len_cons (n := 1) l0
  obtain ⟨d2, t2, rfl, l2⟩ := len_cons (n := 0) l1
  obtain rfl := List.eq_nil_of_length_eq_zero l2
  rfl

set_option maxRecDepth 100000 in
theorem lifted (os : Os) (started : os.Started) (H : Type) (enc : TypeId × Value → H) :
    ReturnsInHanded {} Try.checked os 4 .any (Rows.breachStorySpec.pre6 enc Try.prog Try.f4 Rows.breachStoryRow.domain false) (Rows.breachStorySpec.post enc Try.prog Try.f4 false true false false) := by
  refine returnsInHanded_of_change (C := Try.checked) own started (by kernel_rfl) Try.func4
    (ChangeSpec.witness6 (enc := enc) (C := Try.checked) false ⟨#[], #[.slice none 0 0, .int .u8 0, .int .u16 0], []⟩ 8 (by kernel_rfl) (by kernel_rfl) (by kernel_rfl) (by kernel_rfl)) ?_
  intro W base args ds gs before hval hW _ _
  exact law_contract ps_Story rfl schs res Try.underlying4 spec fits hval hW

theorem said : Rows.BreachStorySaid :=
  OpenClaim.holds_of_wide 4 Try.f4 rfl rfl rfl rfl rfl rfl rfl ⟨rfl, rfl, rfl, rfl, rfl⟩ rfl rfl rfl rfl rfl (by kernel_rfl) Try.func4 (by kernel_rfl)
    (of_decide_eq_true (by kernel_rfl)) (by unfold Func.isWrapper; first | (rw [if_pos (by decide +kernel)]; kernel_rfl) | (rw [if_neg (by decide +kernel)]; exact ⟨rfl, rfl⟩))
    (fun os started H enc _ => lifted os started H enc)

end Go.Proofs.Ytehjaghpfnncoaa.breachStory

namespace Go.Proofs.Ytehjaghpfnncoaa
theorem breachStory_holds : Rows.BreachStorySaid := breachStory.said
end Go.Proofs.Ytehjaghpfnncoaa
