/- RescueLeast: the statement's function answers true, and leaves its arguments as they were. No condition. -/
import Derived.Test.YtgpioapepokkbaaGreatRows
import Derived.Test.YtgpioapepokkbaaGreatM05
import Derived.Test.YtgpioapepokkbaaGreatM07
import Derived.KernelRfl
set_option linter.unusedSimpArgs false
set_option linter.unusedVariables false
namespace Go.Proofs.YtgpioapepokkbaaGreat.rescueLeast
open Go.ChangeShapes Go.WideShapes Go.ChangeAt Go.RowKit Go.Mini

theorem own : ownKnob Tryz.prog.godebug = none := by kernel_rfl
theorem schs : Tryz.f9.params.toList.mapM (sy Tryz.prog 9) = some [.Y (.int .i64), .Y (.st [.int .i64, .int .i64, .int .i64, .int .i64]), .int .i64, .int .i64] := by kernel_rfl
theorem res : Tryz.f9.resultTypes = #[4] := by kernel_rfl
theorem fits (sC : List Mini.Data) (h : OH [.Y (.int .i64), .Y (.st [.int .i64, .int .i64, .int .i64, .int .i64]), .int .i64, .int .i64] sC) : ac9 sC = some (.same (.bool true)) := by
  obtain ⟨_, _, rfl, ⟨es, aC, -, F⟩, _, _, rfl, ⟨aM7, aD, -, I⟩, _, _, rfl, ⟨w, b9, -⟩, _, _, rfl, ⟨b, dg, -⟩, rfl⟩ := h
  cases aC; cases aD; cases b9; cases dg
  obtain ⟨l, rfl⟩ := auo F
  obtain ⟨m, rfl⟩ := axZ I
  exact aFO l m w b
theorem spec {hQ : Type} (ds : List (DataW hQ)) (ao : ds.length = Tryz.f9.params.toList.length) : Rows.rescueLeastSpec.fn hQ ds = { results := [.lit (.bool true)], args := ds } := by
  have h : ds.length = 4 := ao.trans (by kernel_rfl)
  obtain ⟨d0, t0, rfl, aHf⟩ := OI (n := 3) h
  obtain ⟨d1, t1, rfl, dW⟩ := OI (n := 2) aHf
  obtain ⟨d2, t2, rfl, ak⟩ := OI (n := 1) dW
  obtain ⟨d3, t3, rfl, bJ⟩ := OI (n := 0) ak
  obtain rfl := List.eq_nil_of_length_eq_zero bJ
  rfl

set_option maxRecDepth 100000 in
theorem lifted (os : Os) (started : os.Started) (hQ : Type) (enc : TypeId × Value → hQ) :
    ReturnsInHanded {} Tryz.checked os 9 .any (Rows.rescueLeastSpec.pre6 enc Tryz.prog Tryz.f9 Rows.rescueLeastRow.domain false) (Rows.rescueLeastSpec.post enc Tryz.prog Tryz.f9 false true false false) := by
  refine returnsInHanded_of_change (C := Tryz.checked) own started (by kernel_rfl) Tryz.func9
    (ChangeSpec.witness6 (enc := enc) (C := Tryz.checked) false ⟨#[], #[.slice none 0 0, .slice none 0 0, .int .i64 0, .int .i64 0], []⟩ 8 (by kernel_rfl) (by kernel_rfl) (by kernel_rfl) (by kernel_rfl)) ?_
  intro W base args ds gs before hR sE _ _
  exact arC aHe rfl schs res Tryz.underlying4 spec fits hR sE

theorem said : Rows.RescueLeastSaid :=
  OpenClaim.holds_of_wide 9 Tryz.f9 rfl rfl rfl rfl rfl rfl rfl ⟨rfl, rfl, rfl, rfl, rfl⟩ rfl rfl rfl rfl rfl (by kernel_rfl) Tryz.func9 (by kernel_rfl)
    (of_decide_eq_true (by kernel_rfl)) (by unfold Func.isWrapper; first | (rw [if_pos (by decide +kernel)]; kernel_rfl) | (rw [if_neg (by decide +kernel)]; exact ⟨rfl, rfl⟩))
    (fun os started hQ enc _ => lifted os started hQ enc)

end Go.Proofs.YtgpioapepokkbaaGreat.rescueLeast

namespace Go.Proofs.YtgpioapepokkbaaGreat
theorem rescueLeast_holds : Rows.RescueLeastSaid := rescueLeast.said
end Go.Proofs.YtgpioapepokkbaaGreat
