/- HoldoutPaid: the statement's function answers true, and leaves its arguments as they were. No condition. -/
import Derived.Test.YtgpioapepokkbaaGreatRows
import Derived.Test.YtgpioapepokkbaaGreatM05
import Derived.Test.YtgpioapepokkbaaGreatM06
import Derived.KernelRfl
set_option linter.unusedSimpArgs false
set_option linter.unusedVariables false
set_option linter.defProp false
namespace Go.Proofs.YtgpioapepokkbaaGreat.holdoutPaid
open Go.ChangeShapes Go.WideShapes Go.ChangeAt Go.RowKit Go.Mini

theorem own : ownKnob Tryz.prog.godebug = none := by kernel_rfl
theorem schs : Tryz.f10.params.toList.mapM (sR Tryz.prog 9) = some [.st [.ay (.int .i64), .ay (.st [.int .i64, .int .i64, .int .i64, .int .i64]), .ay (.int .i64), .int .i64, .int .i64], .int .u8] := by kernel_rfl
theorem res : Tryz.f10.resultTypes = #[4] := by kernel_rfl
theorem fits (sV : List Mini.Data) (h : QC [.st [.ay (.int .i64), .ay (.st [.int .i64, .int .i64, .int .i64, .int .i64]), .ay (.int .i64), .int .i64, .int .i64], .int .u8] sV) : VT sV = some (.same (.bool true)) := by
  obtain ⟨_, _, rfl, ⟨x, rfl, F⟩, _, _, rfl, ⟨a, aD, n9⟩, rfl⟩ := h
  cases aD
  obtain ⟨cash, cs, is, aj, rk, rfl⟩ := aFi F
  obtain ⟨a, rfl, aO⟩ := awH n9
  exact aIF cash cs is aj rk a (by omega)
theorem spec {hR : Type} (ds : List (DataW hR)) (au : ds.length = Tryz.f10.params.toList.length) : Rows.holdoutPaidSpec.fn hR ds = { results := [.lit (.bool true)], args := ds } := by
  have h : ds.length = 2 := au.trans (by kernel_rfl)
  obtain ⟨d0, t0, rfl, aKc⟩ := aeV (n := 1) h
  obtain ⟨d1, t1, rfl, eH⟩ := aeV (n := 0) aKc
  obtain rfl := List.eq_nil_of_length_eq_zero eH
  rfl

set_option maxRecDepth 100000 in
theorem lifted (os : Os) (started : os.Started) (hR : Type) (enc : TypeId × Value → hR) :
    ReturnsInHanded {} Tryz.checked os 10 .any (Rows.holdoutPaidSpec.pre6 enc Tryz.prog Tryz.f10 Rows.holdoutPaidRow.domain false) (Rows.holdoutPaidSpec.post enc Tryz.prog Tryz.f10 false true false false) := by
  refine returnsInHanded_of_change (C := Tryz.checked) own started (by kernel_rfl) Tryz.func10
    (ChangeSpec.witness6 (enc := enc) (C := Tryz.checked) false ⟨#[], #[.agg #[.slice none 0 0, .slice none 0 0, .slice none 0 0, .int .i64 0, .int .i64 0], .int .u8 0], []⟩ 8 (by kernel_rfl) (by kernel_rfl) (by kernel_rfl) (by kernel_rfl)) ?_
  intro W base args ds gs before hT sX _ _
  exact atT aKb rfl schs res Tryz.underlying4 spec fits hT sX

theorem said : Rows.HoldoutPaidSaid :=
  OpenClaim.holds_of_wide 10 Tryz.f10 rfl rfl rfl rfl rfl rfl rfl ⟨rfl, rfl, rfl, rfl, rfl⟩ rfl rfl rfl rfl rfl (by kernel_rfl) Tryz.func10 (by kernel_rfl)
    (of_decide_eq_true (by kernel_rfl)) (by unfold Func.isWrapper; first | (rw [if_pos (by decide +kernel)]; kernel_rfl) | (rw [if_neg (by decide +kernel)]; exact ⟨rfl, rfl⟩))
    (fun os started hR enc _ => lifted os started hR enc)

end Go.Proofs.YtgpioapepokkbaaGreat.holdoutPaid

namespace Go.Proofs.YtgpioapepokkbaaGreat
theorem holdoutPaid_holds : Rows.HoldoutPaidSaid := holdoutPaid.said
end Go.Proofs.YtgpioapepokkbaaGreat
