/- ProofTells: the statement's function answers true, and leaves its arguments as they were. No condition. -/
import Derived.Test.YtgpioapepokkbaaGreatRows
import Derived.Test.YtgpioapepokkbaaGreatM06
import Derived.KernelRfl
set_option linter.unusedSimpArgs false
set_option linter.unusedVariables false
namespace Go.Proofs.YtgpioapepokkbaaGreat.proofTells
open Go.ChangeShapes Go.WideShapes Go.ChangeAt Go.RowKit Go.Mini

theorem own : ownKnob Tryz.prog.godebug = none := by kernel_rfl
theorem schs : Tryz.f4.params.toList.mapM (pX Tryz.prog 9) = some [.X (.int .i64), .X (.st [.int .i64, .int .i64, .int .i64, .int .i64]), .st [.X (.st [.st [.int .i64, .X (.int .i64)], .st [.int .i64, .X (.int .i64)]]), .X (.st [.st [.int .i64, .X (.int .i64)], .st [.int .i64, .X (.int .i64)]]), .X (.X (.int .i64))]] := by kernel_rfl
theorem res : Tryz.f4.resultTypes = #[4] := by kernel_rfl
theorem fits (p0 : List Mini.Data) (h : JL [.X (.int .i64), .X (.st [.int .i64, .int .i64, .int .i64, .int .i64]), .st [.X (.st [.st [.int .i64, .X (.int .i64)], .st [.int .i64, .X (.int .i64)]]), .X (.st [.st [.int .i64, .X (.int .i64)], .st [.int .i64, .X (.int .i64)]]), .X (.X (.int .i64))]] p0) : Wo p0 = some (.same (.bool true)) := by
  obtain ⟨_, _, rfl, ⟨es, aw, -, D⟩, _, _, rfl, ⟨aaC, aB, -, G⟩, _, _, rfl, ⟨x, rfl, ag⟩, rfl⟩ := h
  cases aw; cases aB
  obtain ⟨l, rfl⟩ := KY D
  obtain ⟨m, rfl⟩ := aor G
  obtain ⟨ad, aJ, fl, rfl⟩ := asR ag
  exact at2 l m ad aJ fl
theorem spec {g9 : Type} (ds : List (DataW g9)) (au : ds.length = Tryz.f4.params.toList.length) : Rows.proofTellsSpec.fn g9 ds = { results := [.lit (.bool true)], args := ds } := by
  have h : ds.length = 3 := au.trans (by kernel_rfl)
  obtain ⟨d0, t0, rfl, avh⟩ := Ob (n := 2) h
  obtain ⟨d1, t1, rfl, fK⟩ := Ob (n := 1) avh
  obtain ⟨d2, t2, rfl, ab⟩ := Ob (n := 0) fK
  obtain rfl := List.eq_nil_of_length_eq_zero ab
  rfl

set_option maxRecDepth 100000 in
theorem lifted (os : Os) (started : os.Started) (g9 : Type) (enc : TypeId × Value → g9) :
    ReturnsInHanded {} Tryz.checked os 4 .any (Rows.proofTellsSpec.pre6 enc Tryz.prog Tryz.f4 Rows.proofTellsRow.domain false) (Rows.proofTellsSpec.post enc Tryz.prog Tryz.f4 false true false false) := by
  refine returnsInHanded_of_change (C := Tryz.checked) own started (by kernel_rfl) Tryz.func4
    (ChangeSpec.witness6 (enc := enc) (C := Tryz.checked) false ⟨#[], #[.slice none 0 0, .slice none 0 0, .agg #[.slice none 0 0, .slice none 0 0, .slice none 0 0]], []⟩ 8 (by kernel_rfl) (by kernel_rfl) (by kernel_rfl) (by kernel_rfl)) ?_
  intro W base args ds gs before g0 r4 _ _
  exact ai6 avg rfl schs res Tryz.underlying4 spec fits g0 r4

theorem said : Rows.ProofTellsSaid :=
  OpenClaim.holds_of_wide 4 Tryz.f4 rfl rfl rfl rfl rfl rfl rfl ⟨rfl, rfl, rfl, rfl, rfl⟩ rfl rfl rfl rfl rfl (by kernel_rfl) Tryz.func4 (by kernel_rfl)
    (of_decide_eq_true (by kernel_rfl)) (by unfold Func.isWrapper; first | (rw [if_pos (by decide +kernel)]; kernel_rfl) | (rw [if_neg (by decide +kernel)]; exact ⟨rfl, rfl⟩))
    (fun os started g9 enc _ => lifted os started g9 enc)

end Go.Proofs.YtgpioapepokkbaaGreat.proofTells

namespace Go.Proofs.YtgpioapepokkbaaGreat
theorem proofTells_holds : Rows.ProofTellsSaid := proofTells.said
end Go.Proofs.YtgpioapepokkbaaGreat
