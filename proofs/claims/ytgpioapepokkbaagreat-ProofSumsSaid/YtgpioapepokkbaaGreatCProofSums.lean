/- ProofSums: the statement's function answers true, and leaves its arguments as they were. No condition. -/
import Derived.Test.YtgpioapepokkbaaGreatRows
import Derived.Test.YtgpioapepokkbaaGreatM05
import Derived.Test.YtgpioapepokkbaaGreatM07
import Derived.KernelRfl
set_option linter.unusedSimpArgs false
set_option linter.unusedVariables false
namespace Go.Proofs.YtgpioapepokkbaaGreat.proofSums
open Go.ChangeShapes Go.WideShapes Go.ChangeAt Go.RowKit Go.Mini

theorem own : ownKnob Tryz.prog.godebug = none := by kernel_rfl
theorem schs : Tryz.f8.params.toList.mapM (sm Tryz.prog 9) = some [.X (.int .i64), .X (.st [.int .i64, .int .i64, .int .i64, .int .i64]), .int .u8, .int .u16] := by kernel_rfl
theorem res : Tryz.f8.resultTypes = #[4] := by kernel_rfl
theorem fits (sr : List Mini.Data) (h : Oy [.X (.int .i64), .X (.st [.int .i64, .int .i64, .int .i64, .int .i64]), .int .u8, .int .u16] sr) : acI sr = some (.same (.bool true)) := by
  obtain ⟨_, _, rfl, ⟨es, ay, -, E⟩, _, _, rfl, ⟨aNe, aB, -, H⟩, _, _, rfl, ⟨a, bG, bO⟩, _, _, rfl, ⟨b, dp, ue⟩, rfl⟩ := h
  cases ay; cases aB; cases bG; cases dp
  obtain ⟨l, rfl⟩ := aud E
  obtain ⟨m, rfl⟩ := axM H
  obtain ⟨a, rfl, aM⟩ := aue bO
  obtain ⟨b, rfl, ae⟩ := axN ue
  exact aFw l m a b ⟨aM, ae⟩
theorem spec {hI : Type} (ds : List (DataW hI)) (ao : ds.length = Tryz.f8.params.toList.length) : Rows.proofSumsSpec.fn hI ds = { results := [.lit (.bool true)], args := ds } := by
  have h : ds.length = 4 := ao.trans (by kernel_rfl)
  obtain ⟨d0, t0, rfl, aHa⟩ := Oz (n := 3) h
  obtain ⟨d1, t1, rfl, en⟩ := Oz (n := 2) aHa
  obtain ⟨d2, t2, rfl, al⟩ := Oz (n := 1) en
  obtain ⟨d3, t3, rfl, b1⟩ := Oz (n := 0) al
  obtain rfl := List.eq_nil_of_length_eq_zero b1
  rfl

set_option maxRecDepth 100000 in
theorem lifted (os : Os) (started : os.Started) (hI : Type) (enc : TypeId × Value → hI) :
    ReturnsInHanded {} Tryz.checked os 8 .any (Rows.proofSumsSpec.pre6 enc Tryz.prog Tryz.f8 Rows.proofSumsRow.domain false) (Rows.proofSumsSpec.post enc Tryz.prog Tryz.f8 false true false false) := by
  refine returnsInHanded_of_change (C := Tryz.checked) own started (by kernel_rfl) Tryz.func8
    (ChangeSpec.witness6 (enc := enc) (C := Tryz.checked) false ⟨#[], #[.slice none 0 0, .slice none 0 0, .int .u8 0, .int .u16 0], []⟩ 8 (by kernel_rfl) (by kernel_rfl) (by kernel_rfl) (by kernel_rfl)) ?_
  intro W base args ds gs before hX su _ _
  exact arq aG9 rfl schs res Tryz.underlying4 spec fits hX su

theorem said : Rows.ProofSumsSaid :=
  OpenClaim.holds_of_wide 8 Tryz.f8 rfl rfl rfl rfl rfl rfl rfl ⟨rfl, rfl, rfl, rfl, rfl⟩ rfl rfl rfl rfl rfl (by kernel_rfl) Tryz.func8 (by kernel_rfl)
    (of_decide_eq_true (by kernel_rfl)) (by unfold Func.isWrapper; first | (rw [if_pos (by decide +kernel)]; kernel_rfl) | (rw [if_neg (by decide +kernel)]; exact ⟨rfl, rfl⟩))
    (fun os started hI enc _ => lifted os started hI enc)

end Go.Proofs.YtgpioapepokkbaaGreat.proofSums

namespace Go.Proofs.YtgpioapepokkbaaGreat
theorem proofSums_holds : Rows.ProofSumsSaid := proofSums.said
end Go.Proofs.YtgpioapepokkbaaGreat
