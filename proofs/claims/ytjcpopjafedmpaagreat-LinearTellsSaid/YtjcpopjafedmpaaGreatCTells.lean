/- LinearTells: the statement's function answers true, and leaves its arguments as they were. No condition. -/
import Derived.Test.YtjcpopjafedmpaaGreatRows
import Derived.Test.YtjcpopjafedmpaaGreatM07
import Derived.Test.YtjcpopjafedmpaaGreatM13
import Derived.KernelRfl
set_option linter.unusedSimpArgs false
set_option linter.unusedVariables false
namespace Go.Proofs.YtjcpopjafedmpaaGreat.linearTells
open Go.ChangeShapes Go.WideShapes Go.ChangeAt Go.RowKit Go.Mini

theorem own : ownKnob Tryz.prog.godebug = none := by kernel_rfl
theorem schs : Tryz.f3.params.toList.mapM (schOf Tryz.prog 9) = some [.sl (.st [.sl (.st [.st [.int .i64, .sl (.int .i64)], .st [.int .i64, .sl (.int .i64)]]), .st [.st [.int .i64, .sl (.int .i64)], .st [.int .i64, .sl (.int .i64)]]]), .int .i64, .sl (.st [.st [.int .i64, .sl (.int .i64)], .st [.int .i64, .sl (.int .i64)]])] := by kernel_rfl
theorem res : Tryz.f3.resultTypes = #[4] := by kernel_rfl
theorem fits (Ds : List Mini.Data) (h : FitAs [.sl (.st [.sl (.st [.st [.int .i64, .sl (.int .i64)], .st [.int .i64, .sl (.int .i64)]]), .st [.st [.int .i64, .sl (.int .i64)], .st [.int .i64, .sl (.int .i64)]]]), .int .i64, .sl (.st [.st [.int .i64, .sl (.int .i64)], .st [.int .i64, .sl (.int .i64)]])] Ds) : F_wTells Ds = some (.same (.bool true)) := by
  obtain ⟨_, _, rfl, ⟨es, e1, -, h1⟩, _, _, rfl, ⟨n, e2, -⟩, _, _, rfl, ⟨es2, e3, -, h2⟩, rfl⟩ := h
  cases e1; cases e2; cases e3
  obtain ⟨l, rfl⟩ := fit_rows h1
  obtain ⟨m, rfl⟩ := fit_fracs h2
  exact F_wTells_eq l n m
theorem spec {H : Type} (ds : List (DataW H)) (h0 : ds.length = Tryz.f3.params.toList.length) : Rows.linearTellsSpec.fn H ds = { results := [.lit (.bool true)], args := ds } := by
  have h : ds.length = 3 := h0.trans (by kernel_rfl)
  obtain ⟨d0, t0, rfl, l0⟩ := len_cons (n := 2) h
  obtain ⟨d1, t1, rfl, l1⟩ := len_cons (n := 1) l0
  obtain ⟨d2, t2, rfl, l2⟩ := len_cons (n := 0) l1
  obtain rfl := List.eq_nil_of_length_eq_zero l2
  rfl

set_option maxRecDepth 100000 in
theorem lifted (os : Os) (started : os.Started) (H : Type) (enc : TypeId × Value → H) :
    ReturnsInHanded {} Tryz.checked os 3 .any (Rows.linearTellsSpec.pre6 enc Tryz.prog Tryz.f3 Rows.linearTellsRow.domain false) (Rows.linearTellsSpec.post enc Tryz.prog Tryz.f3 false true false false) := by
  refine returnsInHanded_of_change (C := Tryz.checked) own started (by kernel_rfl) Tryz.func3
    (ChangeSpec.witness6 (enc := enc) (C := Tryz.checked) false ⟨#[], #[.slice none 0 0, .int .i64 0, .slice none 0 0], []⟩ 8 (by kernel_rfl) (by kernel_rfl) (by kernel_rfl) (by kernel_rfl)) ?_
  intro W base args ds gs before hval hW _ _
  exact law_contract ps_wTells rfl schs res Tryz.underlying4 spec fits hval hW

theorem said : Rows.LinearTellsSaid :=
  OpenClaim.holds_of_wide 3 Tryz.f3 rfl rfl rfl rfl rfl rfl rfl ⟨rfl, rfl, rfl, rfl, rfl⟩ rfl rfl rfl rfl rfl (by kernel_rfl) Tryz.func3 (by kernel_rfl)
    (of_decide_eq_true (by kernel_rfl)) (by unfold Func.isWrapper; first | (rw [if_pos (by decide +kernel)]; kernel_rfl) | (rw [if_neg (by decide +kernel)]; exact ⟨rfl, rfl⟩))
    (fun os started H enc _ => lifted os started H enc)

end Go.Proofs.YtjcpopjafedmpaaGreat.linearTells

namespace Go.Proofs.YtjcpopjafedmpaaGreat
theorem linearTells_holds : Rows.LinearTellsSaid := linearTells.said
end Go.Proofs.YtjcpopjafedmpaaGreat
