/- ProofRefuses: the statement's function answers true, and leaves its arguments as they were. No condition. -/
import Derived.Test.YtgpioapepokkbaaGreatRows
import Derived.Test.YtgpioapepokkbaaGreatM07
import Derived.KernelRfl
set_option linter.unusedSimpArgs false
set_option linter.unusedVariables false
namespace Go.Proofs.YtgpioapepokkbaaGreat.proofRefuses
open Go.ChangeShapes Go.WideShapes Go.ChangeAt Go.RowKit Go.Mini

theorem own : ownKnob Tryz.prog.godebug = none := by kernel_rfl
theorem schs : Tryz.f7.params.toList.mapM (sB Tryz.prog 9) = some [.Y (.int .i64), .Y (.st [.int .i64, .int .i64, .int .i64, .int .i64]), .int .u8, .int .i8] := by kernel_rfl
theorem res : Tryz.f7.resultTypes = #[4] := by kernel_rfl
theorem fits (sE : List Mini.Data) (h : OR [.Y (.int .i64), .Y (.st [.int .i64, .int .i64, .int .i64, .int .i64]), .int .u8, .int .i8] sE) : acJ sE = some (.same (.bool true)) := by
  obtain ⟨_, _, rfl, ⟨es, az, -, F⟩, _, _, rfl, ⟨aMq, aD, -, I⟩, _, _, rfl, ⟨a, bZ, b5⟩, _, _, rfl, ⟨b, dr, o0⟩, rfl⟩ := h
  cases az; cases aD; cases bZ; cases dr
  obtain ⟨l, rfl⟩ := at5 F
  obtain ⟨m, rfl⟩ := axD I
  obtain ⟨a, rfl, aN⟩ := at6 b5
  obtain ⟨kl, eJ⟩ := aEn o0
  exact aE5 l m a b ⟨aN, kl, eJ⟩
theorem spec {hO : Type} (ds : List (DataW hO)) (ao : ds.length = Tryz.f7.params.toList.length) : Rows.proofRefusesSpec.fn hO ds = { results := [.lit (.bool true)], args := ds } := by
  have h : ds.length = 4 := ao.trans (by kernel_rfl)
  obtain ⟨d0, t0, rfl, aGA⟩ := OS (n := 3) h
  obtain ⟨d1, t1, rfl, eh⟩ := OS (n := 2) aGA
  obtain ⟨d2, t2, rfl, aq⟩ := OS (n := 1) eh
  obtain ⟨d3, t3, rfl, b3⟩ := OS (n := 0) aq
  obtain rfl := List.eq_nil_of_length_eq_zero b3
  rfl

set_option maxRecDepth 100000 in
theorem lifted (os : Os) (started : os.Started) (hO : Type) (enc : TypeId × Value → hO) :
    ReturnsInHanded {} Tryz.checked os 7 .any (Rows.proofRefusesSpec.pre6 enc Tryz.prog Tryz.f7 Rows.proofRefusesRow.domain false) (Rows.proofRefusesSpec.post enc Tryz.prog Tryz.f7 false true false false) := by
  refine returnsInHanded_of_change (C := Tryz.checked) own started (by kernel_rfl) Tryz.func7
    (ChangeSpec.witness6 (enc := enc) (C := Tryz.checked) false ⟨#[], #[.slice none 0 0, .slice none 0 0, .int .u8 0, .int .i8 0], []⟩ 8 (by kernel_rfl) (by kernel_rfl) (by kernel_rfl) (by kernel_rfl)) ?_
  intro W base args ds gs before hQ rD _ _
  exact arl aGz rfl schs res Tryz.underlying4 spec fits hQ rD

theorem said : Rows.ProofRefusesSaid :=
  OpenClaim.holds_of_wide 7 Tryz.f7 rfl rfl rfl rfl rfl rfl rfl ⟨rfl, rfl, rfl, rfl, rfl⟩ rfl rfl rfl rfl rfl (by kernel_rfl) Tryz.func7 (by kernel_rfl)
    (of_decide_eq_true (by kernel_rfl)) (by unfold Func.isWrapper; first | (rw [if_pos (by decide +kernel)]; kernel_rfl) | (rw [if_neg (by decide +kernel)]; exact ⟨rfl, rfl⟩))
    (fun os started hO enc _ => lifted os started hO enc)

end Go.Proofs.YtgpioapepokkbaaGreat.proofRefuses

namespace Go.Proofs.YtgpioapepokkbaaGreat
theorem proofRefuses_holds : Rows.ProofRefusesSaid := proofRefuses.said
end Go.Proofs.YtgpioapepokkbaaGreat
