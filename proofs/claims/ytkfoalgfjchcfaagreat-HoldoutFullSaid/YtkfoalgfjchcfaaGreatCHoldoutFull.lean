/- HoldoutFull: the statement's function answers true, and leaves its arguments as they were. No condition. -/
import Derived.Test.YtkfoalgfjchcfaaGreatRows
import Derived.Test.YtkfoalgfjchcfaaGreatM06
import Derived.KernelRfl
set_option linter.unusedSimpArgs false
set_option linter.unusedVariables false
namespace Go.Proofs.YtkfoalgfjchcfaaGreat.holdoutFull
open Go.ChangeShapes Go.WideShapes Go.ChangeAt Go.RowKit Go.Mini

theorem own : ownKnob Tryz.prog.godebug = none := by kernel_rfl
theorem schs : Tryz.f5.params.toList.mapM (rl Tryz.prog 9) = some [.st [.af (.int .i64), .af (.st [.int .i64, .int .i64, .int .i64, .int .i64]), .af (.int .i64), .int .i64, .int .i64], .int .u8] := by kernel_rfl
theorem res : Tryz.f5.resultTypes = #[4] := by kernel_rfl
theorem fits (rp : List Mini.Data) (h : LU [.st [.af (.int .i64), .af (.st [.int .i64, .int .i64, .int .i64, .int .i64]), .af (.int .i64), .int .i64, .int .i64], .int .u8] rp) : YA rp = some (.same (.bool true)) := by
  obtain ⟨_, _, rfl, ⟨x, rfl, E⟩, _, _, rfl, ⟨a, aC, nd⟩, rfl⟩ := h
  cases aC
  obtain ⟨cash, cs, is, ah, rk, rfl⟩ := awS E
  obtain ⟨a, rfl, a1⟩ := aoX nd
  exact axI cash cs is ah rk a (by omega)
theorem spec {hx : Type} (ds : List (DataW hx)) (ak : ds.length = Tryz.f5.params.toList.length) : Rows.holdoutFullSpec.fn hx ds = { results := [.lit (.bool true)], args := ds } := by
  have h : ds.length = 2 := ak.trans (by kernel_rfl)
  obtain ⟨d0, t0, rfl, ayN⟩ := aaB (n := 1) h
  obtain ⟨d1, t1, rfl, eB⟩ := aaB (n := 0) ayN
  obtain rfl := List.eq_nil_of_length_eq_zero eB
  rfl

set_option maxRecDepth 100000 in
theorem lifted (os : Os) (started : os.Started) (hx : Type) (enc : TypeId × Value → hx) :
    ReturnsInHanded {} Tryz.checked os 5 .any (Rows.holdoutFullSpec.pre6 enc Tryz.prog Tryz.f5 Rows.holdoutFullRow.domain false) (Rows.holdoutFullSpec.post enc Tryz.prog Tryz.f5 false true false false) := by
  refine returnsInHanded_of_change (C := Tryz.checked) own started (by kernel_rfl) Tryz.func5
    (ChangeSpec.witness6 (enc := enc) (C := Tryz.checked) false ⟨#[], #[.agg #[.slice none 0 0, .slice none 0 0, .slice none 0 0, .int .i64 0, .int .i64 0], .int .u8 0], []⟩ 8 (by kernel_rfl) (by kernel_rfl) (by kernel_rfl) (by kernel_rfl)) ?_
  intro W base args ds gs before hz wD _ _
  exact amn ayM rfl schs res Tryz.underlying4 spec fits hz wD

theorem said : Rows.HoldoutFullSaid :=
  OpenClaim.holds_of_wide 5 Tryz.f5 rfl rfl rfl rfl rfl rfl rfl ⟨rfl, rfl, rfl, rfl, rfl⟩ rfl rfl rfl rfl rfl (by kernel_rfl) Tryz.func5 (by kernel_rfl)
    (of_decide_eq_true (by kernel_rfl)) (by unfold Func.isWrapper; first | (rw [if_pos (by decide +kernel)]; kernel_rfl) | (rw [if_neg (by decide +kernel)]; exact ⟨rfl, rfl⟩))
    (fun os started hx enc _ => lifted os started hx enc)

end Go.Proofs.YtkfoalgfjchcfaaGreat.holdoutFull

namespace Go.Proofs.YtkfoalgfjchcfaaGreat
theorem holdoutFull_holds : Rows.HoldoutFullSaid := holdoutFull.said
end Go.Proofs.YtkfoalgfjchcfaaGreat
