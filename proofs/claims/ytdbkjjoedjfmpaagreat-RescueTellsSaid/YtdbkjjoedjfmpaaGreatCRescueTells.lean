/- RescueTells: the statement's function answers true, and leaves its arguments as they were. No condition. -/
import Derived.Test.YtdbkjjoedjfmpaaGreatRows
import Derived.Test.YtdbkjjoedjfmpaaGreatM05
import Derived.Test.YtdbkjjoedjfmpaaGreatM07
import Derived.KernelRfl
set_option linter.unusedSimpArgs false
set_option linter.unusedVariables false
namespace Go.Proofs.YtdbkjjoedjfmpaaGreat.rescueTells
open Go.ChangeShapes Go.WideShapes Go.ChangeAt Go.RowKit Go.Mini

theorem own : ownKnob Tryz.prog.godebug = none := by kernel_rfl
theorem schs : Tryz.f4.params.toList.mapM (tT Tryz.prog 9) = some [.Y (.int .i64), .Y (.st [.int .i64, .int .i64, .int .i64, .int .i64]), .int .i64] := by kernel_rfl
theorem res : Tryz.f4.resultTypes = #[4] := by kernel_rfl
theorem fits (tW : List Mini.Data) (h : PI [.Y (.int .i64), .Y (.st [.int .i64, .int .i64, .int .i64, .int .i64]), .int .i64] tW) : adU tW = some (.same (.bool true)) := by
  obtain ⟨_, _, rfl, ⟨es, ay, -, G⟩, _, _, rfl, ⟨aK4, aA, -, J⟩, _, _, rfl, ⟨w, bQ, -⟩, rfl⟩ := h
  cases ay; cases aA; cases bQ
  obtain ⟨l, rfl⟩ := aue G
  obtain ⟨m, rfl⟩ := ayR J
  exact aEe l m w
theorem spec {gI : Type} (ds : List (DataW gI)) (aj : ds.length = Tryz.f4.params.toList.length) : Rows.rescueTellsSpec.fn gI ds = { results := [.lit (.bool true)], args := ds } := by
  have h : ds.length = 3 := aj.trans (by kernel_rfl)
  obtain ⟨d0, t0, rfl, aFx⟩ := Vo (n := 2) h
  obtain ⟨d1, t1, rfl, dr⟩ := Vo (n := 1) aFx
  obtain ⟨d2, t2, rfl, aa⟩ := Vo (n := 0) dr
  obtain rfl := List.eq_nil_of_length_eq_zero aa
  rfl

set_option maxRecDepth 100000 in
theorem lifted (os : Os) (started : os.Started) (gI : Type) (enc : TypeId × Value → gI) :
    ReturnsInHanded {} Tryz.checked os 4 .any (Rows.rescueTellsSpec.pre6 enc Tryz.prog Tryz.f4 Rows.rescueTellsRow.domain false) (Rows.rescueTellsSpec.post enc Tryz.prog Tryz.f4 false true false false) := by
  refine returnsInHanded_of_change (C := Tryz.checked) own started (by kernel_rfl) Tryz.func4
    (ChangeSpec.witness6 (enc := enc) (C := Tryz.checked) false ⟨#[], #[.slice none 0 0, .slice none 0 0, .int .i64 0], []⟩ 8 (by kernel_rfl) (by kernel_rfl) (by kernel_rfl) (by kernel_rfl)) ?_
  intro W base args ds gs before jk zt _ _
  exact arL aFw rfl schs res Tryz.underlying4 spec fits jk zt

theorem said : Rows.RescueTellsSaid :=
  OpenClaim.holds_of_wide 4 Tryz.f4 rfl rfl rfl rfl rfl rfl rfl ⟨rfl, rfl, rfl, rfl, rfl⟩ rfl rfl rfl rfl rfl (by kernel_rfl) Tryz.func4 (by kernel_rfl)
    (of_decide_eq_true (by kernel_rfl)) (by unfold Func.isWrapper; first | (rw [if_pos (by decide +kernel)]; kernel_rfl) | (rw [if_neg (by decide +kernel)]; exact ⟨rfl, rfl⟩))
    (fun os started gI enc _ => lifted os started gI enc)

end Go.Proofs.YtdbkjjoedjfmpaaGreat.rescueTells

namespace Go.Proofs.YtdbkjjoedjfmpaaGreat
theorem rescueTells_holds : Rows.RescueTellsSaid := rescueTells.said
end Go.Proofs.YtdbkjjoedjfmpaaGreat
