/- LinearSums: the statement's function answers true, and leaves its arguments as they were. No condition. -/
import Derived.Test.YtjcpopjafedmpaaRows
import Derived.Test.YtjcpopjafedmpaaM07
import Derived.Test.YtjcpopjafedmpaaM11
import Derived.Test.YtjcpopjafedmpaaM12
import Derived.KernelRfl
set_option linter.unusedSimpArgs false
set_option linter.unusedVariables false
namespace Go.Proofs.Ytjcpopjafedmpaa.linearSums
open Go.ChangeShapes Go.WideShapes Go.ChangeAt Go.RowKit Go.Mini

theorem own : ownKnob Try.prog.godebug = none := by kernel_rfl
theorem schs : Try.f5.params.toList.mapM (schOf Try.prog 9) = some [.sl (.st [.sl (.st [.st [.int .i64, .sl (.int .i64)], .st [.int .i64, .sl (.int .i64)]]), .st [.st [.int .i64, .sl (.int .i64)], .st [.int .i64, .sl (.int .i64)]]]), .sl (.st [.st [.int .i64, .sl (.int .i64)], .st [.int .i64, .sl (.int .i64)]])] := by kernel_rfl
theorem res : Try.f5.resultTypes = #[4] := by kernel_rfl
theorem fits (Ds : List Mini.Data) (h : FitAs [.sl (.st [.sl (.st [.st [.int .i64, .sl (.int .i64)], .st [.int .i64, .sl (.int .i64)]]), .st [.st [.int .i64, .sl (.int .i64)], .st [.int .i64, .sl (.int .i64)]]]), .sl (.st [.st [.int .i64, .sl (.int .i64)], .st [.int .i64, .sl (.int .i64)]])] Ds) : F_wSums Ds = some (.same (.bool true)) := by
  obtain ⟨_, _, rfl, ⟨es, e1, -, h1⟩, _, _, rfl, ⟨es2, e2, -, h2⟩, rfl⟩ := h
  cases e1; cases e2
  obtain ⟨l, rfl⟩ := fit_rows h1
  obtain ⟨m, rfl⟩ := fit_fracs h2
  exact F_wSums_eq l m (sums_law l m)
theorem spec {H : Type} (ds : List (DataW H)) (h0 : ds.length = Try.f5.params.toList.length) : Rows.linearSumsSpec.fn H ds = { results := [.lit (.bool true)], args := ds } := by
  have h : ds.length = 2 := h0.trans (by kernel_rfl)
  obtain ⟨d0, t0, rfl, l0⟩ := len_cons (n := 1) h
  obtain ⟨d1, t1, rfl, l1⟩ := len_cons (n := 0) l0
  obtain rfl := List.eq_nil_of_length_eq_zero l1
  rfl

set_option maxRecDepth 100000 in
theorem lifted (os : Os) (started : os.Started) (H : Type) (enc : TypeId × Value → H) :
    ReturnsInHanded {} Try.checked os 5 .any (Rows.linearSumsSpec.pre6 enc Try.prog Try.f5 Rows.linearSumsRow.domain false) (Rows.linearSumsSpec.post enc Try.prog Try.f5 false true false false) := by
  refine returnsInHanded_of_change (C := Try.checked) own started (by kernel_rfl) Try.func5
    (ChangeSpec.witness6 (enc := enc) (C := Try.checked) false ⟨#[], #[.slice none 0 0, .slice none 0 0], []⟩ 8 (by kernel_rfl) (by kernel_rfl) (by kernel_rfl) (by kernel_rfl)) ?_
  intro W base args ds gs before hval hW _ _
  exact law_contract ps_wSums rfl schs res Try.underlying4 spec fits hval hW

theorem said : Rows.LinearSumsSaid :=
  OpenClaim.holds_of_wide 5 Try.f5 rfl rfl rfl rfl rfl rfl rfl ⟨rfl, rfl, rfl, rfl, rfl⟩ rfl rfl rfl rfl rfl (by kernel_rfl) Try.func5 (by kernel_rfl)
    (of_decide_eq_true (by kernel_rfl)) (by unfold Func.isWrapper; first | (rw [if_pos (by decide +kernel)]; kernel_rfl) | (rw [if_neg (by decide +kernel)]; exact ⟨rfl, rfl⟩))
    (fun os started H enc _ => lifted os started H enc)

end Go.Proofs.Ytjcpopjafedmpaa.linearSums

namespace Go.Proofs.Ytjcpopjafedmpaa
theorem linearSums_holds : Rows.LinearSumsSaid := linearSums.said
end Go.Proofs.Ytjcpopjafedmpaa
