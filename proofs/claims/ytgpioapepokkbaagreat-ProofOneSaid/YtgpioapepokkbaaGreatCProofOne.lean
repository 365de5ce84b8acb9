/- ProofOne: the statement's function answers true, and leaves its arguments as they were. No condition. -/
import Derived.Test.YtgpioapepokkbaaGreatRows
import Derived.Test.YtgpioapepokkbaaGreatM07
import Derived.KernelRfl
set_option linter.unusedSimpArgs false
set_option linter.unusedVariables false
namespace Go.Proofs.YtgpioapepokkbaaGreat.proofOne
open Go.ChangeShapes Go.WideShapes Go.ChangeAt Go.RowKit Go.Mini

theorem own : ownKnob Tryz.prog.godebug = none := by kernel_rfl
theorem schs : Tryz.f5.params.toList.mapM (sr Tryz.prog 9) = some [.Y (.int .i64), .Y (.st [.int .i64, .int .i64, .int .i64, .int .i64]), .st [.Y (.st [.st [.int .i64, .Y (.int .i64)], .st [.int .i64, .Y (.int .i64)]]), .Y (.st [.st [.int .i64, .Y (.int .i64)], .st [.int .i64, .Y (.int .i64)]]), .Y (.Y (.int .i64))]] := by kernel_rfl
theorem res : Tryz.f5.resultTypes = #[4] := by kernel_rfl
theorem fits (sv : List Mini.Data) (h : N8 [.Y (.int .i64), .Y (.st [.int .i64, .int .i64, .int .i64, .int .i64]), .st [.Y (.st [.st [.int .i64, .Y (.int .i64)], .st [.int .i64, .Y (.int .i64)]]), .Y (.st [.st [.int .i64, .Y (.int .i64)], .st [.int .i64, .Y (.int .i64)]]), .Y (.Y (.int .i64))]] sv) : acn sv = some (.same (.bool true)) := by
  obtain ⟨_, _, rfl, ⟨es, aA, -, F⟩, _, _, rfl, ⟨agb, aC, -, I⟩, _, _, rfl, ⟨x, rfl, af⟩, rfl⟩ := h
  cases aA; cases aC
  obtain ⟨l, rfl⟩ := PH F
  obtain ⟨m, rfl⟩ := axc I
  obtain ⟨hv, pv, fl, rfl⟩ := aD4 af
  exact aER l m hv pv fl
theorem spec {hL : Type} (ds : List (DataW hL)) (al : ds.length = Tryz.f5.params.toList.length) : Rows.proofOneSpec.fn hL ds = { results := [.lit (.bool true)], args := ds } := by
  have h : ds.length = 3 := al.trans (by kernel_rfl)
  obtain ⟨d0, t0, rfl, aGf⟩ := TO (n := 2) h
  obtain ⟨d1, t1, rfl, dY⟩ := TO (n := 1) aGf
  obtain ⟨d2, t2, rfl, ai⟩ := TO (n := 0) dY
  obtain rfl := List.eq_nil_of_length_eq_zero ai
  rfl

set_option maxRecDepth 100000 in
theorem lifted (os : Os) (started : os.Started) (hL : Type) (enc : TypeId × Value → hL) :
    ReturnsInHanded {} Tryz.checked os 5 .any (Rows.proofOneSpec.pre6 enc Tryz.prog Tryz.f5 Rows.proofOneRow.domain false) (Rows.proofOneSpec.post enc Tryz.prog Tryz.f5 false true false false) := by
  refine returnsInHanded_of_change (C := Tryz.checked) own started (by kernel_rfl) Tryz.func5
    (ChangeSpec.witness6 (enc := enc) (C := Tryz.checked) false ⟨#[], #[.slice none 0 0, .slice none 0 0, .agg #[.slice none 0 0, .slice none 0 0, .slice none 0 0]], []⟩ 8 (by kernel_rfl) (by kernel_rfl) (by kernel_rfl) (by kernel_rfl)) ?_
  intro W base args ds gs before hM rr _ _
  exact aqP aGe rfl schs res Tryz.underlying4 spec fits hM rr

theorem said : Rows.ProofOneSaid :=
  OpenClaim.holds_of_wide 5 Tryz.f5 rfl rfl rfl rfl rfl rfl rfl ⟨rfl, rfl, rfl, rfl, rfl⟩ rfl rfl rfl rfl rfl (by kernel_rfl) Tryz.func5 (by kernel_rfl)
    (of_decide_eq_true (by kernel_rfl)) (by unfold Func.isWrapper; first | (rw [if_pos (by decide +kernel)]; kernel_rfl) | (rw [if_neg (by decide +kernel)]; exact ⟨rfl, rfl⟩))
    (fun os started hL enc _ => lifted os started hL enc)

end Go.Proofs.YtgpioapepokkbaaGreat.proofOne

namespace Go.Proofs.YtgpioapepokkbaaGreat
theorem proofOne_holds : Rows.ProofOneSaid := proofOne.said
end Go.Proofs.YtgpioapepokkbaaGreat
