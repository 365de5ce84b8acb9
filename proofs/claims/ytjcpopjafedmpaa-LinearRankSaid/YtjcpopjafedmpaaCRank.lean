/- LinearRank: the statement's function answers true, and leaves its arguments as they were. No condition. -/
import Derived.Test.YtjcpopjafedmpaaRows
import Derived.Test.YtjcpopjafedmpaaM07
import Derived.Test.YtjcpopjafedmpaaM11
import Derived.Test.YtjcpopjafedmpaaM12
import Derived.KernelRfl
set_option linter.unusedSimpArgs false
set_option linter.unusedVariables false
namespace Go.Proofs.Ytjcpopjafedmpaa.linearRank
open Go.ChangeShapes Go.WideShapes Go.ChangeAt Go.RowKit Go.Mini

theorem own : ownKnob Try.prog.godebug = none := by kernel_rfl
theorem schs : Try.f6.params.toList.mapM (schOf Try.prog 9) = some [.sl (.st [.sl (.st [.st [.int .i64, .sl (.int .i64)], .st [.int .i64, .sl (.int .i64)]]), .st [.st [.int .i64, .sl (.int .i64)], .st [.int .i64, .sl (.int .i64)]]]), .int .u8, .int .u8] := by kernel_rfl
theorem res : Try.f6.resultTypes = #[4] := by kernel_rfl
theorem fits (Ds : List Mini.Data) (h : FitAs [.sl (.st [.sl (.st [.st [.int .i64, .sl (.int .i64)], .st [.int .i64, .sl (.int .i64)]]), .st [.st [.int .i64, .sl (.int .i64)], .st [.int .i64, .sl (.int .i64)]]]), .int .u8, .int .u8] Ds) : F_wRank Ds = some (.same (.bool true)) := by
  obtain ⟨_, _, rfl, ⟨es, e1, -, h1⟩, _, _, rfl, ⟨i, e2, w2⟩, _, _, rfl, ⟨k, e3, w3⟩, rfl⟩ := h
  cases e1; cases e2; cases e3
  obtain ⟨l, rfl⟩ := fit_rows h1
  obtain ⟨i, rfl, hi⟩ := wf_u8' w2
  obtain ⟨k, rfl, hk⟩ := wf_u8' w3
  exact F_wRank_eq l i k ⟨hi, hk, rank_law l i k⟩
theorem spec {H : Type} (ds : List (DataW H)) (h0 : ds.length = Try.f6.params.toList.length) : Rows.linearRankSpec.fn H ds = { results := [.lit (.bool true)], args := ds } := by
  have h : ds.length = 3 := h0.trans (by kernel_rfl)
  obtain ⟨d0, t0, rfl, l0⟩ := len_cons (n := 2) h
  obtain ⟨d1, t1, rfl, l1⟩ := len_cons (n := 1) l0
  obtain ⟨d2, t2, rfl, l2⟩ := len_cons (n := 0) l1
  obtain rfl := List.eq_nil_of_length_eq_zero l2
  rfl

set_option maxRecDepth 100000 in
theorem lifted (os : Os) (started : os.Started) (H : Type) (enc : TypeId × Value → H) :
    ReturnsInHanded {} Try.checked os 6 .any (Rows.linearRankSpec.pre6 enc Try.prog Try.f6 Rows.linearRankRow.domain false) (Rows.linearRankSpec.post enc Try.prog Try.f6 false true false false) := by
  refine returnsInHanded_of_change (C := Try.checked) own started (by kernel_rfl) Try.func6
    (ChangeSpec.witness6 (enc := enc) (C := Try.checked) false ⟨#[], #[.slice none 0 0, .int .u8 0, .int .u8 0], []⟩ 8 (by kernel_rfl) (by kernel_rfl) (by kernel_rfl) (by kernel_rfl)) ?_
  intro W base args ds gs before hval hW _ _
  exact law_contract ps_wRank rfl schs res Try.underlying4 spec fits hval hW

theorem said : Rows.LinearRankSaid :=
  OpenClaim.holds_of_wide 6 Try.f6 rfl rfl rfl rfl rfl rfl rfl ⟨rfl, rfl, rfl, rfl, rfl⟩ rfl rfl rfl rfl rfl (by kernel_rfl) Try.func6 (by kernel_rfl)
    (of_decide_eq_true (by kernel_rfl)) (by unfold Func.isWrapper; first | (rw [if_pos (by decide +kernel)]; kernel_rfl) | (rw [if_neg (by decide +kernel)]; exact ⟨rfl, rfl⟩))
    (fun os started H enc _ => lifted os started H enc)

end Go.Proofs.Ytjcpopjafedmpaa.linearRank

namespace Go.Proofs.Ytjcpopjafedmpaa
theorem linearRank_holds : Rows.LinearRankSaid := linearRank.said
end Go.Proofs.Ytjcpopjafedmpaa
