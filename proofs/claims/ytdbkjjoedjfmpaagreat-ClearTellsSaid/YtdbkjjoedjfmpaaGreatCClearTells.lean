/- ClearTells: the statement's function answers true, and leaves its arguments as they were. No condition. -/
import Derived.Test.YtdbkjjoedjfmpaaGreatRows
import Derived.Test.YtdbkjjoedjfmpaaGreatM05
import Derived.Test.YtdbkjjoedjfmpaaGreatM07
import Derived.KernelRfl
set_option linter.unusedSimpArgs false
set_option linter.unusedVariables false
namespace Go.Proofs.YtdbkjjoedjfmpaaGreat.clearTells
open Go.ChangeShapes Go.WideShapes Go.ChangeAt Go.RowKit Go.Mini

theorem own : ownKnob Tryz.prog.godebug = none := by kernel_rfl
theorem schs : Tryz.f3.params.toList.mapM (sX Tryz.prog 9) = some [.X (.int .i64), .X (.st [.int .i64, .int .i64, .int .i64, .int .i64]), .X (.st [.st [.int .i64, .X (.int .i64)], .st [.int .i64, .X (.int .i64)]])] := by kernel_rfl
theorem res : Tryz.f3.resultTypes = #[4] := by kernel_rfl
theorem fits (s0 : List Mini.Data) (h : Pg [.X (.int .i64), .X (.st [.int .i64, .int .i64, .int .i64, .int .i64]), .X (.st [.st [.int .i64, .X (.int .i64)], .st [.int .i64, .X (.int .i64)]])] s0) : aea s0 = some (.same (.bool true)) := by
  obtain ⟨_, _, rfl, ⟨es, av, -, G⟩, _, _, rfl, ⟨auK, aB, -, J⟩, _, _, rfl, ⟨aMw, bp, -, af⟩, rfl⟩ := h
  cases av; cases aB; cases bp
  obtain ⟨l, rfl⟩ := X6 G
  obtain ⟨m, rfl⟩ := azz J
  obtain ⟨o, rfl⟩ := auL af
  exact aFB l m o
theorem spec {gf : Type} (ds : List (DataW gf)) (ax : ds.length = Tryz.f3.params.toList.length) : Rows.clearTellsSpec.fn gf ds = { results := [.lit (.bool true)], args := ds } := by
  have h : ds.length = 3 := ax.trans (by kernel_rfl)
  obtain ⟨d0, t0, rfl, aGT⟩ := UO (n := 2) h
  obtain ⟨d1, t1, rfl, ed⟩ := UO (n := 1) aGT
  obtain ⟨d2, t2, rfl, aa⟩ := UO (n := 0) ed
  obtain rfl := List.eq_nil_of_length_eq_zero aa
  rfl

set_option maxRecDepth 100000 in
theorem lifted (os : Os) (started : os.Started) (gf : Type) (enc : TypeId × Value → gf) :
    ReturnsInHanded {} Tryz.checked os 3 .any (Rows.clearTellsSpec.pre6 enc Tryz.prog Tryz.f3 Rows.clearTellsRow.domain false) (Rows.clearTellsSpec.post enc Tryz.prog Tryz.f3 false true false false) := by
  refine returnsInHanded_of_change (C := Tryz.checked) own started (by kernel_rfl) Tryz.func3
    (ChangeSpec.witness6 (enc := enc) (C := Tryz.checked) false ⟨#[], #[.slice none 0 0, .slice none 0 0, .slice none 0 0], []⟩ 8 (by kernel_rfl) (by kernel_rfl) (by kernel_rfl) (by kernel_rfl)) ?_
  intro W base args ds gs before iL yK _ _
  exact ar8 aGS rfl schs res Tryz.underlying4 spec fits iL yK

theorem said : Rows.ClearTellsSaid :=
  OpenClaim.holds_of_wide 3 Tryz.f3 rfl rfl rfl rfl rfl rfl rfl ⟨rfl, rfl, rfl, rfl, rfl⟩ rfl rfl rfl rfl rfl (by kernel_rfl) Tryz.func3 (by kernel_rfl)
    (of_decide_eq_true (by kernel_rfl)) (by unfold Func.isWrapper; first | (rw [if_pos (by decide +kernel)]; kernel_rfl) | (rw [if_neg (by decide +kernel)]; exact ⟨rfl, rfl⟩))
    (fun os started gf enc _ => lifted os started gf enc)

end Go.Proofs.YtdbkjjoedjfmpaaGreat.clearTells

namespace Go.Proofs.YtdbkjjoedjfmpaaGreat
theorem clearTells_holds : Rows.ClearTellsSaid := clearTells.said
end Go.Proofs.YtdbkjjoedjfmpaaGreat
