/- ProofGreatest: the statement's function answers true, and leaves its arguments as they were. No condition. -/
import Derived.Test.YtgpioapepokkbaaGreatRows
import Derived.Test.YtgpioapepokkbaaGreatM07
import Derived.KernelRfl
set_option linter.unusedSimpArgs false
set_option linter.unusedVariables false
namespace Go.Proofs.YtgpioapepokkbaaGreat.proofGreatest
open Go.ChangeShapes Go.WideShapes Go.ChangeAt Go.RowKit Go.Mini

theorem own : ownKnob Tryz.prog.godebug = none := by kernel_rfl
theorem schs : Tryz.f6.params.toList.mapM (sA Tryz.prog 9) = some [.Y (.int .i64), .Y (.st [.int .i64, .int .i64, .int .i64, .int .i64]), .Y (.int .u8)] := by kernel_rfl
theorem res : Tryz.f6.resultTypes = #[4] := by kernel_rfl
theorem fits (sC : List Mini.Data) (h : OA [.Y (.int .i64), .Y (.st [.int .i64, .int .i64, .int .i64, .int .i64]), .Y (.int .u8)] sC) : acV sC = some (.same (.bool true)) := by
  obtain ⟨_, _, rfl, ⟨es, ay, -, G⟩, _, _, rfl, ⟨aNj, aC, -, I⟩, _, _, rfl, ⟨aNk, cg, -, af⟩, rfl⟩ := h
  cases ay; cases aC; cases cg
  obtain ⟨l, rfl⟩ := aum G
  obtain ⟨m, rfl⟩ := axU I
  obtain ⟨p, rfl, aE⟩ := aF1 af
  exact aFS l m p aE
theorem spec {hS : Type} (ds : List (DataW hS)) (ar : ds.length = Tryz.f6.params.toList.length) : Rows.proofGreatestSpec.fn hS ds = { results := [.lit (.bool true)], args := ds } := by
  have h : ds.length = 3 := ar.trans (by kernel_rfl)
  obtain ⟨d0, t0, rfl, aHp⟩ := Ui (n := 2) h
  obtain ⟨d1, t1, rfl, ei⟩ := Ui (n := 1) aHp
  obtain ⟨d2, t2, rfl, ai⟩ := Ui (n := 0) ei
  obtain rfl := List.eq_nil_of_length_eq_zero ai
  rfl

set_option maxRecDepth 100000 in
theorem lifted (os : Os) (started : os.Started) (hS : Type) (enc : TypeId × Value → hS) :
    ReturnsInHanded {} Tryz.checked os 6 .any (Rows.proofGreatestSpec.pre6 enc Tryz.prog Tryz.f6 Rows.proofGreatestRow.domain false) (Rows.proofGreatestSpec.post enc Tryz.prog Tryz.f6 false true false false) := by
  refine returnsInHanded_of_change (C := Tryz.checked) own started (by kernel_rfl) Tryz.func6
    (ChangeSpec.witness6 (enc := enc) (C := Tryz.checked) false ⟨#[], #[.slice none 0 0, .slice none 0 0, .slice none 0 0], []⟩ 8 (by kernel_rfl) (by kernel_rfl) (by kernel_rfl) (by kernel_rfl)) ?_
  intro W base args ds gs before hU sE _ _
  exact ary aHo rfl schs res Tryz.underlying4 spec fits hU sE

theorem said : Rows.ProofGreatestSaid :=
  OpenClaim.holds_of_wide 6 Tryz.f6 rfl rfl rfl rfl rfl rfl rfl ⟨rfl, rfl, rfl, rfl, rfl⟩ rfl rfl rfl rfl rfl (by kernel_rfl) Tryz.func6 (by kernel_rfl)
    (of_decide_eq_true (by kernel_rfl)) (by unfold Func.isWrapper; first | (rw [if_pos (by decide +kernel)]; kernel_rfl) | (rw [if_neg (by decide +kernel)]; exact ⟨rfl, rfl⟩))
    (fun os started hS enc _ => lifted os started hS enc)

end Go.Proofs.YtgpioapepokkbaaGreat.proofGreatest

namespace Go.Proofs.YtgpioapepokkbaaGreat
theorem proofGreatest_holds : Rows.ProofGreatestSaid := proofGreatest.said
end Go.Proofs.YtgpioapepokkbaaGreat
