/- HoldoutNone: the statement's function answers true, and leaves its arguments as they were. No condition. -/
import Derived.Test.YtkfoalgfjchcfaaGreatRows
import Derived.Test.YtkfoalgfjchcfaaGreatM06
import Derived.KernelRfl
set_option linter.unusedSimpArgs false
set_option linter.unusedVariables false
namespace Go.Proofs.YtkfoalgfjchcfaaGreat.holdoutNone
open Go.ChangeShapes Go.WideShapes Go.ChangeAt Go.RowKit Go.Mini

theorem own : ownKnob Tryz.prog.godebug = none := by kernel_rfl
theorem schs : Tryz.f4.params.toList.mapM (q8 Tryz.prog 9) = some [.st [.ae (.int .i64), .ae (.st [.int .i64, .int .i64, .int .i64, .int .i64]), .ae (.int .i64), .int .i64, .int .i64], .int .u8] := by kernel_rfl
theorem res : Tryz.f4.resultTypes = #[4] := by kernel_rfl
theorem fits (rb : List Mini.Data) (h : LD [.st [.ae (.int .i64), .ae (.st [.int .i64, .int .i64, .int .i64, .int .i64]), .ae (.int .i64), .int .i64, .int .i64], .int .u8] rb) : X6 rb = some (.same (.bool true)) := by
  obtain ⟨_, _, rfl, ⟨x, rfl, E⟩, _, _, rfl, ⟨a, ay, mZ⟩, rfl⟩ := h
  cases ay
  obtain ⟨cash, cs, is, au, rk, rfl⟩ := awy E
  obtain ⟨a, rfl, aZ⟩ := aoq mZ
  exact axo cash cs is au rk a (by omega)
theorem spec {hk : Type} (ds : List (DataW hk)) (ai : ds.length = Tryz.f4.params.toList.length) : Rows.holdoutNoneSpec.fn hk ds = { results := [.lit (.bool true)], args := ds } := by
  have h : ds.length = 2 := ai.trans (by kernel_rfl)
  obtain ⟨d0, t0, rfl, ayo⟩ := Z7 (n := 1) h
  obtain ⟨d1, t1, rfl, eE⟩ := Z7 (n := 0) ayo
  obtain rfl := List.eq_nil_of_length_eq_zero eE
  rfl

set_option maxRecDepth 100000 in
theorem lifted (os : Os) (started : os.Started) (hk : Type) (enc : TypeId × Value → hk) :
    ReturnsInHanded {} Tryz.checked os 4 .any (Rows.holdoutNoneSpec.pre6 enc Tryz.prog Tryz.f4 Rows.holdoutNoneRow.domain false) (Rows.holdoutNoneSpec.post enc Tryz.prog Tryz.f4 false true false false) := by
  refine returnsInHanded_of_change (C := Tryz.checked) own started (by kernel_rfl) Tryz.func4
    (ChangeSpec.witness6 (enc := enc) (C := Tryz.checked) false ⟨#[], #[.agg #[.slice none 0 0, .slice none 0 0, .slice none 0 0, .int .i64 0, .int .i64 0], .int .u8 0], []⟩ 8 (by kernel_rfl) (by kernel_rfl) (by kernel_rfl) (by kernel_rfl)) ?_
  intro W base args ds gs before hl wC _ _
  exact alR ayn rfl schs res Tryz.underlying4 spec fits hl wC

theorem said : Rows.HoldoutNoneSaid :=
  OpenClaim.holds_of_wide 4 Tryz.f4 rfl rfl rfl rfl rfl rfl rfl ⟨rfl, rfl, rfl, rfl, rfl⟩ rfl rfl rfl rfl rfl (by kernel_rfl) Tryz.func4 (by kernel_rfl)
    (of_decide_eq_true (by kernel_rfl)) (by unfold Func.isWrapper; first | (rw [if_pos (by decide +kernel)]; kernel_rfl) | (rw [if_neg (by decide +kernel)]; exact ⟨rfl, rfl⟩))
    (fun os started hk enc _ => lifted os started hk enc)

end Go.Proofs.YtkfoalgfjchcfaaGreat.holdoutNone

namespace Go.Proofs.YtkfoalgfjchcfaaGreat
theorem holdoutNone_holds : Rows.HoldoutNoneSaid := holdoutNone.said
end Go.Proofs.YtkfoalgfjchcfaaGreat
