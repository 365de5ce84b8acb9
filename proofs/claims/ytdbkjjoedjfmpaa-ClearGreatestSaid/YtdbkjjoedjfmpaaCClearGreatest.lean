/- ClearGreatest: the statement's function answers true, and leaves its arguments as they were. No condition. -/
import Derived.Test.YtdbkjjoedjfmpaaRows
import Derived.Test.YtdbkjjoedjfmpaaM11
import Derived.Test.YtdbkjjoedjfmpaaM15
import Derived.KernelRfl
set_option linter.unusedSimpArgs false
set_option linter.unusedVariables false
namespace Go.Proofs.Ytdbkjjoedjfmpaa.clearGreatest
open Go.ChangeShapes Go.WideShapes Go.ChangeAt Go.RowKit Go.Mini

theorem own : ownKnob Try.prog.godebug = none := by kernel_rfl
theorem schs : Try.f3.params.toList.mapM (kZ Try.prog 9) = some [.sl (.int .i64), .sl (.st [.int .i64, .int .i64, .int .i64, .int .i64]), .sl (.st [.st [.int .i64, .sl (.int .i64)], .st [.int .i64, .sl (.int .i64)]])] := by kernel_rfl
theorem res : Try.f3.resultTypes = #[4] := by kernel_rfl
theorem fits (Ds : List Mini.Data) (h : Ek [.sl (.int .i64), .sl (.st [.int .i64, .int .i64, .int .i64, .int .i64]), .sl (.st [.st [.int .i64, .sl (.int .i64)], .st [.int .i64, .sl (.int .i64)]])] Ds) : nJ Ds = some (.same (.bool true)) := by
  obtain ⟨_, _, rfl, ⟨es, e1, -, h1⟩, _, _, rfl, ⟨es2, e2, -, h2⟩, _, _, rfl, ⟨es3, e3, -, h3⟩, rfl⟩ := h
  cases e1; cases e2; cases e3
  obtain ⟨l, rfl⟩ := ti h1
  obtain ⟨m, rfl⟩ := Cj h2
  obtain ⟨o, rfl⟩ := F8 h3
  exact uj l m o
theorem spec {H : Type} (ds : List (DataW H)) (h0 : ds.length = Try.f3.params.toList.length) : Rows.clearGreatestSpec.fn H ds = { results := [.lit (.bool true)], args := ds } := by
  have h : ds.length = 3 := h0.trans (by kernel_rfl)
  obtain ⟨d0, t0, rfl, l0⟩ := ud (n := 2) h
  obtain ⟨d1, t1, rfl, l1⟩ := ud (n := 1) l0
  obtain ⟨d2, t2, rfl, l2⟩ := ud (n := 0) l1
  obtain rfl := List.eq_nil_of_length_eq_zero l2
  rfl

set_option maxRecDepth 100000 in
theorem lifted (os : Os) (started : os.Started) (H : Type) (enc : TypeId × Value → H) :
    ReturnsInHanded {} Try.checked os 3 .any (Rows.clearGreatestSpec.pre6 enc Try.prog Try.f3 Rows.clearGreatestRow.domain false) (Rows.clearGreatestSpec.post enc Try.prog Try.f3 false true false false) := by
  refine returnsInHanded_of_change (C := Try.checked) own started (by kernel_rfl) Try.func3
    (ChangeSpec.witness6 (enc := enc) (C := Try.checked) false ⟨#[], #[.slice none 0 0, .slice none 0 0, .slice none 0 0], []⟩ 8 (by kernel_rfl) (by kernel_rfl) (by kernel_rfl) (by kernel_rfl)) ?_
  intro W base args ds gs before hval hW _ _
  exact yK xG rfl schs res Try.underlying4 spec fits hval hW

theorem said : Rows.ClearGreatestSaid :=
  OpenClaim.holds_of_wide 3 Try.f3 rfl rfl rfl rfl rfl rfl rfl ⟨rfl, rfl, rfl, rfl, rfl⟩ rfl rfl rfl rfl rfl (by kernel_rfl) Try.func3 (by kernel_rfl)
    (of_decide_eq_true (by kernel_rfl)) (by unfold Func.isWrapper; first | (rw [if_pos (by decide +kernel)]; kernel_rfl) | (rw [if_neg (by decide +kernel)]; exact ⟨rfl, rfl⟩))
    (fun os started H enc _ => lifted os started H enc)

end Go.Proofs.Ytdbkjjoedjfmpaa.clearGreatest

namespace Go.Proofs.Ytdbkjjoedjfmpaa
theorem clearGreatest_holds : Rows.ClearGreatestSaid := clearGreatest.said
end Go.Proofs.Ytdbkjjoedjfmpaa
