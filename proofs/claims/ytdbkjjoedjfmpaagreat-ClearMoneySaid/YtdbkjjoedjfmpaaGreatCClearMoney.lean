/- ClearMoney: the statement's function answers true, and leaves its arguments as they were. No condition. -/
import Derived.Test.YtdbkjjoedjfmpaaGreatRows
import Derived.Test.YtdbkjjoedjfmpaaGreatM11
import Derived.Test.YtdbkjjoedjfmpaaGreatM16
import Derived.Test.YtdbkjjoedjfmpaaGreatM15
import Derived.KernelRfl
set_option linter.unusedSimpArgs false
set_option linter.unusedVariables false
namespace Go.Proofs.YtdbkjjoedjfmpaaGreat.clearMoney
open Go.ChangeShapes Go.WideShapes Go.ChangeAt Go.RowKit Go.Mini

theorem own : ownKnob Tryz.prog.godebug = none := by kernel_rfl
theorem schs : Tryz.f6.params.toList.mapM (ls Tryz.prog 9) = some [.sl (.int .i64), .sl (.st [.int .i64, .int .i64, .int .i64, .int .i64])] := by kernel_rfl
theorem res : Tryz.f6.resultTypes = #[4] := by kernel_rfl
theorem fits (Ds : List Mini.Data) (h : Ev [.sl (.int .i64), .sl (.st [.int .i64, .int .i64, .int .i64, .int .i64])] Ds) : vp Ds = some (.same (.bool true)) := by
  obtain ⟨_, _, rfl, ⟨es, e1, -, h1⟩, _, _, rfl, ⟨es2, e2, -, h2⟩, rfl⟩ := h
  cases e1; cases e2
  obtain ⟨l, rfl⟩ := KW h1
  obtain ⟨m, rfl⟩ := Dw h2
  exact BJ l m
theorem spec {H : Type} (ds : List (DataW H)) (h0 : ds.length = Tryz.f6.params.toList.length) : Rows.clearMoneySpec.fn H ds = { results := [.lit (.bool true)], args := ds } := by
  have h : ds.length = 2 := h0.trans (by kernel_rfl)
  obtain ⟨d0, t0, rfl, l0⟩ := BO (n := 1) h
  obtain ⟨d1, t1, rfl, l1⟩ := BO (n := 0) l0
  obtain rfl := List.eq_nil_of_length_eq_zero l1
  rfl

set_option maxRecDepth 100000 in
theorem lifted (os : Os) (started : os.Started) (H : Type) (enc : TypeId × Value → H) :
    ReturnsInHanded {} Tryz.checked os 6 .any (Rows.clearMoneySpec.pre6 enc Tryz.prog Tryz.f6 Rows.clearMoneyRow.domain false) (Rows.clearMoneySpec.post enc Tryz.prog Tryz.f6 false true false false) := by
  refine returnsInHanded_of_change (C := Tryz.checked) own started (by kernel_rfl) Tryz.func6
    (ChangeSpec.witness6 (enc := enc) (C := Tryz.checked) false ⟨#[], #[.slice none 0 0, .slice none 0 0], []⟩ 8 (by kernel_rfl) (by kernel_rfl) (by kernel_rfl) (by kernel_rfl)) ?_
  intro W base args ds gs before hval hW _ _
  exact yu Hf rfl schs res Tryz.underlying4 spec fits hval hW

theorem said : Rows.ClearMoneySaid :=
  OpenClaim.holds_of_wide 6 Tryz.f6 rfl rfl rfl rfl rfl rfl rfl ⟨rfl, rfl, rfl, rfl, rfl⟩ rfl rfl rfl rfl rfl (by kernel_rfl) Tryz.func6 (by kernel_rfl)
    (of_decide_eq_true (by kernel_rfl)) (by unfold Func.isWrapper; first | (rw [if_pos (by decide +kernel)]; kernel_rfl) | (rw [if_neg (by decide +kernel)]; exact ⟨rfl, rfl⟩))
    (fun os started H enc _ => lifted os started H enc)

end Go.Proofs.YtdbkjjoedjfmpaaGreat.clearMoney

namespace Go.Proofs.YtdbkjjoedjfmpaaGreat
theorem clearMoney_holds : Rows.ClearMoneySaid := clearMoney.said
end Go.Proofs.YtdbkjjoedjfmpaaGreat
