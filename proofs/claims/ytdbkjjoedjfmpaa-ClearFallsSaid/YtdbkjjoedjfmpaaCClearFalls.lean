/- ClearFalls: the statement's function answers true, and leaves its arguments as they were. No condition. -/
import Derived.Test.YtdbkjjoedjfmpaaRows
import Derived.Test.YtdbkjjoedjfmpaaM11
import Derived.Test.YtdbkjjoedjfmpaaM15
import Derived.KernelRfl
set_option linter.unusedSimpArgs false
set_option linter.unusedVariables false
namespace Go.Proofs.Ytdbkjjoedjfmpaa.clearFalls
open Go.ChangeShapes Go.WideShapes Go.ChangeAt Go.RowKit Go.Mini

theorem own : ownKnob Try.prog.godebug = none := by kernel_rfl
theorem schs : Try.f6.params.toList.mapM (ld Try.prog 9) = some [.sl (.int .i64), .sl (.st [.int .i64, .int .i64, .int .i64, .int .i64])] := by kernel_rfl
theorem res : Try.f6.resultTypes = #[4] := by kernel_rfl
theorem fits (Ds : List Mini.Data) (h : EA [.sl (.int .i64), .sl (.st [.int .i64, .int .i64, .int .i64, .int .i64])] Ds) : tC Ds = some (.same (.bool true)) := by
  obtain ⟨_, _, rfl, ⟨es, e1, -, h1⟩, _, _, rfl, ⟨es2, e2, -, h2⟩, rfl⟩ := h
  cases e1; cases e2
  obtain ⟨l, rfl⟩ := JX h1
  obtain ⟨m, rfl⟩ := Do h2
  exact zg l m
theorem spec {H : Type} (ds : List (DataW H)) (h0 : ds.length = Try.f6.params.toList.length) : Rows.clearFallsSpec.fn H ds = { results := [.lit (.bool true)], args := ds } := by
  have h : ds.length = 2 := h0.trans (by kernel_rfl)
  obtain ⟨d0, t0, rfl, l0⟩ := zQ (n := 1) h
  obtain ⟨d1, t1, rfl, l1⟩ := zQ (n := 0) l0
  obtain rfl := List.eq_nil_of_length_eq_zero l1
  rfl

set_option maxRecDepth 100000 in
theorem lifted (os : Os) (started : os.Started) (H : Type) (enc : TypeId × Value → H) :
    ReturnsInHanded {} Try.checked os 6 .any (Rows.clearFallsSpec.pre6 enc Try.prog Try.f6 Rows.clearFallsRow.domain false) (Rows.clearFallsSpec.post enc Try.prog Try.f6 false true false false) := by
  refine returnsInHanded_of_change (C := Try.checked) own started (by kernel_rfl) Try.func6
    (ChangeSpec.witness6 (enc := enc) (C := Try.checked) false ⟨#[], #[.slice none 0 0, .slice none 0 0], []⟩ 8 (by kernel_rfl) (by kernel_rfl) (by kernel_rfl) (by kernel_rfl)) ?_
  intro W base args ds gs before hval hW _ _
  exact xh Gb rfl schs res Try.underlying4 spec fits hval hW

theorem said : Rows.ClearFallsSaid :=
  OpenClaim.holds_of_wide 6 Try.f6 rfl rfl rfl rfl rfl rfl rfl ⟨rfl, rfl, rfl, rfl, rfl⟩ rfl rfl rfl rfl rfl (by kernel_rfl) Try.func6 (by kernel_rfl)
    (of_decide_eq_true (by kernel_rfl)) (by unfold Func.isWrapper; first | (rw [if_pos (by decide +kernel)]; kernel_rfl) | (rw [if_neg (by decide +kernel)]; exact ⟨rfl, rfl⟩))
    (fun os started H enc _ => lifted os started H enc)

end Go.Proofs.Ytdbkjjoedjfmpaa.clearFalls

namespace Go.Proofs.Ytdbkjjoedjfmpaa
theorem clearFalls_holds : Rows.ClearFallsSaid := clearFalls.said
end Go.Proofs.Ytdbkjjoedjfmpaa
