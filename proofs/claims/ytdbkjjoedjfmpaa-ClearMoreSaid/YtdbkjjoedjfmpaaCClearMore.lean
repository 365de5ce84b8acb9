/- ClearMore: the statement's function answers true, and leaves its arguments as they were. No condition. -/
import Derived.Test.YtdbkjjoedjfmpaaRows
import Derived.Test.YtdbkjjoedjfmpaaM11
import Derived.Test.YtdbkjjoedjfmpaaM15
import Derived.KernelRfl
set_option linter.unusedSimpArgs false
set_option linter.unusedVariables false
namespace Go.Proofs.Ytdbkjjoedjfmpaa.clearMore
open Go.ChangeShapes Go.WideShapes Go.ChangeAt Go.RowKit Go.Mini

theorem own : ownKnob Try.prog.godebug = none := by kernel_rfl
theorem schs : Try.f4.params.toList.mapM (lm Try.prog 9) = some [.sl (.int .i64), .sl (.st [.int .i64, .int .i64, .int .i64, .int .i64]), .int .u8, .int .u16, .int .u8] := by kernel_rfl
theorem res : Try.f4.resultTypes = #[4] := by kernel_rfl
theorem fits (Ds : List Mini.Data) (h : DX [.sl (.int .i64), .sl (.st [.int .i64, .int .i64, .int .i64, .int .i64]), .int .u8, .int .u16, .int .u8] Ds) : xu Ds = some (.same (.bool true)) := by
  obtain ⟨_, _, rfl, ⟨es, e1, -, h1⟩, _, _, rfl, ⟨es2, e2, -, h2⟩, _, _, rfl, ⟨b, e4, w4⟩, _, _, rfl, ⟨n, e6, w6⟩, _, _, rfl, ⟨o, e5, w5⟩, rfl⟩ := h
  cases e1; cases e2; cases e4; cases e6; cases e5
  obtain ⟨l, rfl⟩ := Ka h1
  obtain ⟨m, rfl⟩ := Ch h2
  obtain ⟨b, rfl, hb⟩ := Jm w4
  obtain ⟨n, rfl, hn⟩ := L8 w6
  obtain ⟨o, rfl, ho⟩ := Jm w5
  exact Cd l m b n o ⟨hb, hn, ho⟩
theorem spec {H : Type} (ds : List (DataW H)) (h0 : ds.length = Try.f4.params.toList.length) : Rows.clearMoreSpec.fn H ds = { results := [.lit (.bool true)], args := ds } := by
  have h : ds.length = 5 := h0.trans (by kernel_rfl)
  obtain ⟨d0, t0, rfl, l0⟩ := nN (n := 4) h
  obtain ⟨d1, t1, rfl, l1⟩ := nN (n := 3) l0
  obtain ⟨d2, t2, rfl, l2⟩ := nN (n := 2) l1
  obtain ⟨d3, t3, rfl, l3⟩ := nN (n := 1) l2
  obtain ⟨d4, t4, rfl, l4⟩ := nN (n := 0) l3
  obtain rfl := List.eq_nil_of_length_eq_zero l4
  rfl

set_option maxRecDepth 100000 in
theorem lifted (os : Os) (started : os.Started) (H : Type) (enc : TypeId × Value → H) :
    ReturnsInHanded {} Try.checked os 4 .any (Rows.clearMoreSpec.pre6 enc Try.prog Try.f4 Rows.clearMoreRow.domain false) (Rows.clearMoreSpec.post enc Try.prog Try.f4 false true false false) := by
  refine returnsInHanded_of_change (C := Try.checked) own started (by kernel_rfl) Try.func4
    (ChangeSpec.witness6 (enc := enc) (C := Try.checked) false ⟨#[], #[.slice none 0 0, .slice none 0 0, .int .u8 0, .int .u16 0, .int .u8 0], []⟩ 8 (by kernel_rfl) (by kernel_rfl) (by kernel_rfl) (by kernel_rfl)) ?_
  intro W base args ds gs before hval hW _ _
  exact xH HN rfl schs res Try.underlying4 spec fits hval hW

theorem said : Rows.ClearMoreSaid :=
  OpenClaim.holds_of_wide 4 Try.f4 rfl rfl rfl rfl rfl rfl rfl ⟨rfl, rfl, rfl, rfl, rfl⟩ rfl rfl rfl rfl rfl (by kernel_rfl) Try.func4 (by kernel_rfl)
    (of_decide_eq_true (by kernel_rfl)) (by unfold Func.isWrapper; first | (rw [if_pos (by decide +kernel)]; kernel_rfl) | (rw [if_neg (by decide +kernel)]; exact ⟨rfl, rfl⟩))
    (fun os started H enc _ => lifted os started H enc)

end Go.Proofs.Ytdbkjjoedjfmpaa.clearMore

namespace Go.Proofs.Ytdbkjjoedjfmpaa
theorem clearMore_holds : Rows.ClearMoreSaid := clearMore.said
end Go.Proofs.Ytdbkjjoedjfmpaa
