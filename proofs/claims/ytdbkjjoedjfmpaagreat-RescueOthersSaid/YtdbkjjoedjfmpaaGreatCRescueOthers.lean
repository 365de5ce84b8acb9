/- RescueOthers: the statement's function answers true, and leaves its arguments as they were. No condition. -/
import Derived.Test.YtdbkjjoedjfmpaaGreatRows
import Derived.Test.YtdbkjjoedjfmpaaGreatM11
import Derived.Test.YtdbkjjoedjfmpaaGreatM15
import Derived.KernelRfl
set_option linter.unusedSimpArgs false
set_option linter.unusedVariables false
namespace Go.Proofs.YtdbkjjoedjfmpaaGreat.rescueOthers
open Go.ChangeShapes Go.WideShapes Go.ChangeAt Go.RowKit Go.Mini

theorem own : ownKnob Tryz.prog.godebug = none := by kernel_rfl
theorem schs : Tryz.f5.params.toList.mapM (ll Tryz.prog 9) = some [.sl (.int .i64), .sl (.st [.int .i64, .int .i64, .int .i64, .int .i64]), .int .i64] := by kernel_rfl
theorem res : Tryz.f5.resultTypes = #[4] := by kernel_rfl
theorem fits (Ds : List Mini.Data) (h : D8 [.sl (.int .i64), .sl (.st [.int .i64, .int .i64, .int .i64, .int .i64]), .int .i64] Ds) : r6 Ds = some (.same (.bool true)) := by
  obtain ⟨_, _, rfl, ⟨es, e1, -, h1⟩, _, _, rfl, ⟨es2, e2, -, h2⟩, _, _, rfl, ⟨w, e3, -⟩, rfl⟩ := h
  cases e1; cases e2; cases e3
  obtain ⟨l, rfl⟩ := ID h1
  obtain ⟨m, rfl⟩ := DA h2
  exact yH l m w
theorem spec {H : Type} (ds : List (DataW H)) (h0 : ds.length = Tryz.f5.params.toList.length) : Rows.rescueOthersSpec.fn H ds = { results := [.lit (.bool true)], args := ds } := by
  have h : ds.length = 3 := h0.trans (by kernel_rfl)
  obtain ⟨d0, t0, rfl, l0⟩ := tq (n := 2) h
  obtain ⟨d1, t1, rfl, l1⟩ := tq (n := 1) l0
  obtain ⟨d2, t2, rfl, l2⟩ := tq (n := 0) l1
  obtain rfl := List.eq_nil_of_length_eq_zero l2
  rfl

set_option maxRecDepth 100000 in
theorem lifted (os : Os) (started : os.Started) (H : Type) (enc : TypeId × Value → H) :
    ReturnsInHanded {} Tryz.checked os 5 .any (Rows.rescueOthersSpec.pre6 enc Tryz.prog Tryz.f5 Rows.rescueOthersRow.domain false) (Rows.rescueOthersSpec.post enc Tryz.prog Tryz.f5 false true false false) := by
  refine returnsInHanded_of_change (C := Tryz.checked) own started (by kernel_rfl) Tryz.func5
    (ChangeSpec.witness6 (enc := enc) (C := Tryz.checked) false ⟨#[], #[.slice none 0 0, .slice none 0 0, .int .i64 0], []⟩ 8 (by kernel_rfl) (by kernel_rfl) (by kernel_rfl) (by kernel_rfl)) ?_
  intro W base args ds gs before hval hW _ _
  exact yO BR rfl schs res Tryz.underlying4 spec fits hval hW

theorem said : Rows.RescueOthersSaid :=
  OpenClaim.holds_of_wide 5 Tryz.f5 rfl rfl rfl rfl rfl rfl rfl ⟨rfl, rfl, rfl, rfl, rfl⟩ rfl rfl rfl rfl rfl (by kernel_rfl) Tryz.func5 (by kernel_rfl)
    (of_decide_eq_true (by kernel_rfl)) (by unfold Func.isWrapper; first | (rw [if_pos (by decide +kernel)]; kernel_rfl) | (rw [if_neg (by decide +kernel)]; exact ⟨rfl, rfl⟩))
    (fun os started H enc _ => lifted os started H enc)

end Go.Proofs.YtdbkjjoedjfmpaaGreat.rescueOthers

namespace Go.Proofs.YtdbkjjoedjfmpaaGreat
theorem rescueOthers_holds : Rows.RescueOthersSaid := rescueOthers.said
end Go.Proofs.YtdbkjjoedjfmpaaGreat
