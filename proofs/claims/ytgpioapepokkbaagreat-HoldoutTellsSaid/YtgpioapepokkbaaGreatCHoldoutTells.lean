/- HoldoutTells: the statement's function answers true, and leaves its arguments as they were. No condition. -/
import Derived.Test.YtgpioapepokkbaaGreatRows
import Derived.Test.YtgpioapepokkbaaGreatM06
import Derived.Test.YtgpioapepokkbaaGreatM07
import Derived.KernelRfl
set_option linter.unusedSimpArgs false
set_option linter.unusedVariables false
set_option linter.defProp false
namespace Go.Proofs.YtgpioapepokkbaaGreat.holdoutTells
open Go.ChangeShapes Go.WideShapes Go.ChangeAt Go.RowKit Go.Mini

theorem own : ownKnob Tryz.prog.godebug = none := by kernel_rfl
theorem schs : Tryz.f3.params.toList.mapM (uw Tryz.prog 9) = some [.st [.ax (.int .i64), .ax (.st [.int .i64, .int .i64, .int .i64, .int .i64]), .ax (.int .i64), .int .i64, .int .i64], .int .i64] := by kernel_rfl
theorem res : Tryz.f3.resultTypes = #[4] := by kernel_rfl
theorem fits (uz : List Mini.Data) (h : Si [.st [.ax (.int .i64), .ax (.st [.int .i64, .int .i64, .int .i64, .int .i64]), .ax (.int .i64), .int .i64, .int .i64], .int .i64] uz) : W3 uz = some (.same (.bool true)) := by
  obtain ⟨_, _, rfl, ⟨x, rfl, F⟩, _, _, rfl, ⟨k, aC, -⟩, rfl⟩ := h
  cases aC
  obtain ⟨cash, cs, is, ak, rk, rfl⟩ := aIv F
  exact aJE cash cs is ak rk k
theorem spec {gR : Type} (ds : List (DataW gR)) (ay : ds.length = Tryz.f3.params.toList.length) : Rows.holdoutTellsSpec.fn gR ds = { results := [.lit (.bool true)], args := ds } := by
  have h : ds.length = 2 := ay.trans (by kernel_rfl)
  obtain ⟨d0, t0, rfl, aKW⟩ := agJ (n := 1) h
  obtain ⟨d1, t1, rfl, eN⟩ := agJ (n := 0) aKW
  obtain rfl := List.eq_nil_of_length_eq_zero eN
  rfl

set_option maxRecDepth 100000 in
theorem lifted (os : Os) (started : os.Started) (gR : Type) (enc : TypeId × Value → gR) :
    ReturnsInHanded {} Tryz.checked os 3 .any (Rows.holdoutTellsSpec.pre6 enc Tryz.prog Tryz.f3 Rows.holdoutTellsRow.domain false) (Rows.holdoutTellsSpec.post enc Tryz.prog Tryz.f3 false true false false) := by
  refine returnsInHanded_of_change (C := Tryz.checked) own started (by kernel_rfl) Tryz.func3
    (ChangeSpec.witness6 (enc := enc) (C := Tryz.checked) false ⟨#[], #[.agg #[.slice none 0 0, .slice none 0 0, .slice none 0 0, .int .i64 0, .int .i64 0], .int .i64 0], []⟩ 8 (by kernel_rfl) (by kernel_rfl) (by kernel_rfl) (by kernel_rfl)) ?_
  intro W base args ds gs before jg z5 _ _
  exact avP aKV rfl schs res Tryz.underlying4 spec fits jg z5

theorem said : Rows.HoldoutTellsSaid :=
  OpenClaim.holds_of_wide 3 Tryz.f3 rfl rfl rfl rfl rfl rfl rfl ⟨rfl, rfl, rfl, rfl, rfl⟩ rfl rfl rfl rfl rfl (by kernel_rfl) Tryz.func3 (by kernel_rfl)
    (of_decide_eq_true (by kernel_rfl)) (by unfold Func.isWrapper; first | (rw [if_pos (by decide +kernel)]; kernel_rfl) | (rw [if_neg (by decide +kernel)]; exact ⟨rfl, rfl⟩))
    (fun os started gR enc _ => lifted os started gR enc)

end Go.Proofs.YtgpioapepokkbaaGreat.holdoutTells

namespace Go.Proofs.YtgpioapepokkbaaGreat
theorem holdoutTells_holds : Rows.HoldoutTellsSaid := holdoutTells.said
end Go.Proofs.YtgpioapepokkbaaGreat
