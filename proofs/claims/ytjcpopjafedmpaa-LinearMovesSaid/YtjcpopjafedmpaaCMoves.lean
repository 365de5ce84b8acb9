/- LinearMoves: the statement's function answers true, and leaves its arguments as they were. No condition. -/
import Derived.Test.YtjcpopjafedmpaaRows
import Derived.Test.YtjcpopjafedmpaaM07
import Derived.Test.YtjcpopjafedmpaaM12
import Derived.KernelRfl
set_option linter.unusedSimpArgs false
set_option linter.unusedVariables false
namespace Go.Proofs.Ytjcpopjafedmpaa.linearMoves
open Go.ChangeShapes Go.WideShapes Go.ChangeAt Go.RowKit Go.Mini

theorem own : ownKnob Try.prog.godebug = none := by kernel_rfl
theorem schs : Try.f4.params.toList.mapM (schOf Try.prog 9) = some [.sl (.st [.sl (.st [.st [.int .i64, .sl (.int .i64)], .st [.int .i64, .sl (.int .i64)]]), .st [.st [.int .i64, .sl (.int .i64)], .st [.int .i64, .sl (.int .i64)]]]), .int .u8, .int .u8, .st [.st [.int .i64, .sl (.int .i64)], .st [.int .i64, .sl (.int .i64)]]] := by kernel_rfl
theorem res : Try.f4.resultTypes = #[4] := by kernel_rfl
theorem fits (Ds : List Mini.Data) (h : FitAs [.sl (.st [.sl (.st [.st [.int .i64, .sl (.int .i64)], .st [.int .i64, .sl (.int .i64)]]), .st [.st [.int .i64, .sl (.int .i64)], .st [.int .i64, .sl (.int .i64)]]]), .int .u8, .int .u8, .st [.st [.int .i64, .sl (.int .i64)], .st [.int .i64, .sl (.int .i64)]]] Ds) : F_wMoves Ds = some (.same (.bool true)) := by
  obtain ⟨_, _, rfl, ⟨es, e1, -, h1⟩, _, _, rfl, ⟨i, e2, w2⟩, _, _, rfl, ⟨k, e3, w3⟩, _, _, rfl, ⟨cs, e4, h4⟩, rfl⟩ := h
  cases e1; cases e2; cases e3; cases e4
  obtain ⟨l, rfl⟩ := fit_rows h1
  obtain ⟨i, rfl, hi⟩ := wf_u8' w2
  obtain ⟨k, rfl, hk⟩ := wf_u8' w3
  obtain ⟨⟨⟨s, a⟩, ⟨s2, b⟩⟩, rfl⟩ := fits_frac h4
  exact F_wMoves_eq l i k s a s2 b ⟨hi, hk, moves_law l i k _⟩
theorem spec {H : Type} (ds : List (DataW H)) (h0 : ds.length = Try.f4.params.toList.length) : Rows.linearMovesSpec.fn H ds = { results := [.lit (.bool true)], args := ds } := by
  have h : ds.length = 4 := h0.trans (by kernel_rfl)
  obtain ⟨d0, t0, rfl, l0⟩ := len_cons (n := 3) h
  obtain ⟨d1, t1, rfl, l1⟩ := len_cons (n := 2) l0
  obtain ⟨d2, t2, rfl, l2⟩ := len_cons (n := 1) l1
  obtain ⟨d3, t3, rfl, l3⟩ := len_cons (n := 0) l2
  obtain rfl := List.eq_nil_of_length_eq_zero l3
  rfl

set_option maxRecDepth 100000 in
theorem lifted (os : Os) (started : os.Started) (H : Type) (enc : TypeId × Value → H) :
    ReturnsInHanded {} Try.checked os 4 .any (Rows.linearMovesSpec.pre6 enc Try.prog Try.f4 Rows.linearMovesRow.domain false) (Rows.linearMovesSpec.post enc Try.prog Try.f4 false true false false) := by
  refine returnsInHanded_of_change (C := Try.checked) own started (by kernel_rfl) Try.func4
    (ChangeSpec.witness6 (enc := enc) (C := Try.checked) false ⟨#[], #[.slice none 0 0, .int .u8 0, .int .u8 0, .agg #[.int .i64 0, .slice none 0 0, .int .i64 0, .slice none 0 0]], []⟩ 8 (by kernel_rfl) (by kernel_rfl) (by kernel_rfl) (by kernel_rfl)) ?_
  intro W base args ds gs before hval hW _ _
  exact law_contract ps_wMoves rfl schs res Try.underlying4 spec fits hval hW

theorem said : Rows.LinearMovesSaid :=
  OpenClaim.holds_of_wide 4 Try.f4 rfl rfl rfl rfl rfl rfl rfl ⟨rfl, rfl, rfl, rfl, rfl⟩ rfl rfl rfl rfl rfl (by kernel_rfl) Try.func4 (by kernel_rfl)
    (of_decide_eq_true (by kernel_rfl)) (by unfold Func.isWrapper; first | (rw [if_pos (by decide +kernel)]; kernel_rfl) | (rw [if_neg (by decide +kernel)]; exact ⟨rfl, rfl⟩))
    (fun os started H enc _ => lifted os started H enc)

end Go.Proofs.Ytjcpopjafedmpaa.linearMoves

namespace Go.Proofs.Ytjcpopjafedmpaa
theorem linearMoves_holds : Rows.LinearMovesSaid := linearMoves.said
end Go.Proofs.Ytjcpopjafedmpaa
