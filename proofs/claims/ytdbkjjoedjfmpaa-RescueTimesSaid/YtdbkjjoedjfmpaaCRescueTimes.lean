/- RescueTimes: the statement's function answers true, and leaves its arguments as they were. No condition. -/
import Derived.Test.YtdbkjjoedjfmpaaRows
import Derived.Test.YtdbkjjoedjfmpaaM11
import Derived.Test.YtdbkjjoedjfmpaaM15
import Derived.KernelRfl
set_option linter.unusedSimpArgs false
set_option linter.unusedVariables false
namespace Go.Proofs.Ytdbkjjoedjfmpaa.rescueTimes
open Go.ChangeShapes Go.WideShapes Go.ChangeAt Go.RowKit Go.Mini

theorem own : ownKnob Try.prog.godebug = none := by kernel_rfl
theorem schs : Try.f5.params.toList.mapM (ln Try.prog 9) = some [.sl (.int .i64), .sl (.st [.int .i64, .int .i64, .int .i64, .int .i64]), .int .i64, .int .u8, .int .u8, .int .u16] := by kernel_rfl
theorem res : Try.f5.resultTypes = #[4] := by kernel_rfl
theorem fits (Ds : List Mini.Data) (h : Ej [.sl (.int .i64), .sl (.st [.int .i64, .int .i64, .int .i64, .int .i64]), .int .i64, .int .u8, .int .u8, .int .u16] Ds) : uI Ds = some (.same (.bool true)) := by
  obtain ⟨_, _, rfl, ⟨es, e1, -, h1⟩, _, _, rfl, ⟨es2, e2, -, h2⟩, _, _, rfl, ⟨w, e3, -⟩, _, _, rfl, ⟨b, e4, w4⟩, _, _, rfl, ⟨o, e5, w5⟩, _, _, rfl, ⟨n, e6, w6⟩, rfl⟩ := h
  cases e1; cases e2; cases e3; cases e4; cases e5; cases e6
  obtain ⟨l, rfl⟩ := IF h1
  obtain ⟨m, rfl⟩ := BV h2
  obtain ⟨b, rfl, hb⟩ := KF w4
  obtain ⟨o, rfl, ho⟩ := KF w5
  obtain ⟨n, rfl, hn⟩ := Mh w6
  exact Ac l m w b o n ⟨hb, ho, hn⟩
theorem spec {H : Type} (ds : List (DataW H)) (h0 : ds.length = Try.f5.params.toList.length) : Rows.rescueTimesSpec.fn H ds = { results := [.lit (.bool true)], args := ds } := by
  have h : ds.length = 6 := h0.trans (by kernel_rfl)
  obtain ⟨d0, t0, rfl, l0⟩ := l8 (n := 5) h
  obtain ⟨d1, t1, rfl, l1⟩ := l8 (n := 4) l0
  obtain ⟨d2, t2, rfl, l2⟩ := l8 (n := 3) l1
  obtain ⟨d3, t3, rfl, l3⟩ := l8 (n := 2) l2
  obtain ⟨d4, t4, rfl, l4⟩ := l8 (n := 1) l3
  obtain ⟨d5, t5, rfl, l5⟩ := l8 (n := 0) l4
  obtain rfl := List.eq_nil_of_length_eq_zero l5
  rfl

set_option maxRecDepth 100000 in
theorem lifted (os : Os) (started : os.Started) (H : Type) (enc : TypeId × Value → H) :
    ReturnsInHanded {} Try.checked os 5 .any (Rows.rescueTimesSpec.pre6 enc Try.prog Try.f5 Rows.rescueTimesRow.domain false) (Rows.rescueTimesSpec.post enc Try.prog Try.f5 false true false false) := by
  refine returnsInHanded_of_change (C := Try.checked) own started (by kernel_rfl) Try.func5
    (ChangeSpec.witness6 (enc := enc) (C := Try.checked) false ⟨#[], #[.slice none 0 0, .slice none 0 0, .int .i64 0, .int .u8 0, .int .u8 0, .int .u16 0], []⟩ 8 (by kernel_rfl) (by kernel_rfl) (by kernel_rfl) (by kernel_rfl)) ?_
  intro W base args ds gs before hval hW _ _
  exact xl Fc rfl schs res Try.underlying4 spec fits hval hW

theorem said : Rows.RescueTimesSaid :=
  OpenClaim.holds_of_wide 5 Try.f5 rfl rfl rfl rfl rfl rfl rfl ⟨rfl, rfl, rfl, rfl, rfl⟩ rfl rfl rfl rfl rfl (by kernel_rfl) Try.func5 (by kernel_rfl)
    (of_decide_eq_true (by kernel_rfl)) (by unfold Func.isWrapper; first | (rw [if_pos (by decide +kernel)]; kernel_rfl) | (rw [if_neg (by decide +kernel)]; exact ⟨rfl, rfl⟩))
    (fun os started H enc _ => lifted os started H enc)

end Go.Proofs.Ytdbkjjoedjfmpaa.rescueTimes

namespace Go.Proofs.Ytdbkjjoedjfmpaa
theorem rescueTimes_holds : Rows.RescueTimesSaid := rescueTimes.said
end Go.Proofs.Ytdbkjjoedjfmpaa
