/- CircleTells: the statement's function answers true, and leaves its arguments as they were. No condition; the listed variable as the text lays it. -/
import Derived.Test.YtplehnijfhgclaaGreatDoorRows
import Derived.Test.YtplehnijfhgclaaGreatDoorCards
import Derived.Test.YtplehnijfhgclaaGreatDoorTie
import Derived.Test.YtplehnijfhgclaaGreatDoorM03
import Derived.Test.YtplehnijfhgclaaGreatDoorM06
import Derived.ChangeSame
import Derived.ChangeVars
import Derived.JoinedOf
import Derived.LaidLaws
import Derived.LaidHandle
import Derived.Stop.Joined
import Derived.KernelRfl
set_option linter.unusedSimpArgs false
set_option linter.unusedVariables false
set_option linter.defProp false
namespace Go.Proofs.YtplehnijfhgclaaGreatDoor.circleTells
open Go.ChangeShapes Go.WideShapes Go.ChangeAt Go.RowKit Go.Mini

theorem own : ownKnob Tryz.prog.godebug = none := by kernel_rfl
theorem schs : Tryz.f5.params.toList.mapM (rj Tryz.prog 9) = some [.st [.ar (.st [.st [.int .i64, .ar (.int .i64)], .st [.int .i64, .ar (.int .i64)]]), .ar (.st [.st [.int .i64, .ar (.int .i64)], .st [.int .i64, .ar (.int .i64)]]), .ar (.st [.int .i64, .int .i64, .st [.st [.int .i64, .ar (.int .i64)], .st [.int .i64, .ar (.int .i64)]]])], .int .i64, .ar (.st [.st [.int .i64, .ar (.int .i64)], .st [.int .i64, .ar (.int .i64)]])] := by kernel_rfl
theorem res : Tryz.f5.resultTypes = #[4] := by kernel_rfl
theorem fits (rl : List Mini.Data) (h : Nj [.st [.ar (.st [.st [.int .i64, .ar (.int .i64)], .st [.int .i64, .ar (.int .i64)]]), .ar (.st [.st [.int .i64, .ar (.int .i64)], .st [.int .i64, .ar (.int .i64)]]), .ar (.st [.int .i64, .int .i64, .st [.st [.int .i64, .ar (.int .i64)], .st [.int .i64, .ar (.int .i64)]]])], .int .i64, .ar (.st [.st [.int .i64, .ar (.int .i64)], .st [.int .i64, .ar (.int .i64)]])] rl) : Q1 rl = some (.same (.bool true)) := by
  obtain ⟨_, _, rfl, ⟨x, rfl, F⟩, _, _, rfl, ⟨n, az, -⟩, _, _, rfl, ⟨es, eT, -, ad⟩, rfl⟩ := h
  cases az; cases eT
  obtain ⟨cap, base, ls, rfl⟩ := aqb F
  obtain ⟨z, rfl⟩ := Ur ad
  exact avs cap base ls n z
theorem spec {H : Type} (ds : List (DataW H)) (au : ds.length = Tryz.f5.params.toList.length) : Rows.circleTellsSpec.fn H ds = { results := [.lit (.bool true)], args := ds } := by
  have h : ds.length = 3 := au.trans (by kernel_rfl)
  obtain ⟨d0, t0, rfl, CY⟩ := Sr (n := 2) h
  obtain ⟨d1, t1, rfl, hZ⟩ := Sr (n := 1) CY
  obtain ⟨d2, t2, rfl, Z⟩ := Sr (n := 0) hZ
  obtain rfl := List.eq_nil_of_length_eq_zero Z
  rfl
abbrev laid : List (String × DataW Unit) := [("consol/lex.signs", Rows.laid_consol_lex_signs)]
/-- A world that meets the condition: the settled one, the variable laid. -/
noncomputable def laidWorld (os : Os) : World :=
  let ct := World.holding Tryz.prog os ⟨#[], #[], []⟩
  { ct with heap := ct.heap.modify 0 fun
      | .cells _ t frozen => .cells (zA [[61, 61], [59], [44], [61], [60], [43], [45], [42], [47], [40], [41]]).toArray t frozen
      | o => o }
theorem laidWorld_met (os : Os) (args : Array Value) : laidMetH Tryz.prog laid ((laidWorld os).forCall (fun _ _ => 0) ⟨#[], args, []⟩).memory :=
  laidMetH_of_parts (laidMet_of_run' 8 (by kernel_rfl) (by kernel_rfl)) (by kernel_rfl)

set_option maxRecDepth 100000 in
theorem lifted (os : Os) (started : os.Started) (H : Type) (enc : TypeId × Value → H) :
    ReturnsInHanded {} Tryz.checked os 5 .any (fun w args => (Rows.circleTellsSpec.pre enc Tryz.prog Tryz.f5 [] false w args ∧ laidMetH Tryz.prog laid w) ∧ sizedMet enc Tryz.prog Tryz.f5 (OpenSpec.ofChange Rows.circleTellsSpec) false w args)
      (Rows.circleTellsSpec.post enc Tryz.prog Tryz.f5 false true false false) := by
  refine returnsInHanded_of_change_and (C := Tryz.checked) (X := fun w _ => laidMetH Tryz.prog laid w) (fun _ _ _ bm h => h.of_heap bm) own started (by kernel_rfl) Tryz.func5
    (ChangeSpec.witness_at (enc := enc) (C := Tryz.checked) (os := os) (X := fun w _ => laidMetH Tryz.prog laid w) false (laidWorld os) #[.agg #[.slice none 0 0, .slice none 0 0, .slice none 0 0], .int .i64 0, .slice none 0 0] 8 rfl (by kernel_rfl) (by kernel_rfl) (by kernel_rfl) (by kernel_rfl) (by kernel_rfl) (laidWorld_met os _)) ?_
  intro W base args ds gs before h8 BO _ _ gA _
  exact alz awg rfl schs res Tryz.underlying4 spec fits h8 BO (awj gA)

theorem said : Rows.CircleTellsSaid :=
  OpenClaim.holds_of_wide 5 Tryz.f5 rfl rfl rfl rfl rfl rfl rfl ⟨rfl, rfl, rfl, rfl, rfl⟩ rfl rfl rfl rfl rfl (by kernel_rfl) Tryz.func5 (by kernel_rfl)
    (of_decide_eq_true (by kernel_rfl)) (by unfold Func.isWrapper; first | (rw [if_pos (by decide +kernel)]; kernel_rfl) | (rw [if_neg (by decide +kernel)]; exact ⟨rfl, rfl⟩))
    (fun os started H enc _ => lifted os started H enc)

theorem circleTells_holds : Rows.CircleTellsCardSaid :=
  Claim7.holds_tied_plain_at .later [] [.data] true (true, "241ca86f407cb15ec5216694255b265af67540d4bef19db8ae5c065cd00f0960") true
    said (fun _ h => by cases h) (by kernel_rfl) (fun _ h => by cases h) circleTells_row_tie rfl ⟨rfl, rfl⟩ (by kernel_rfl) rfl
    (fun f fn al awk => by
      obtain rfl : f = 5 := Option.some.inj ((show Tryz.prog.funcNamed "consol/consollaw16.CircleTells" = some 5 by kernel_rfl).symm.trans al) |>.symm
      obtain rfl : fn = Tryz.f5 := (Option.some.inj (Tryz.func5.symm.trans awk)).symm
      exact ⟨by kernel_rfl, fun j t bN => by
        have cZ : (Tryz.f5.params.all fun t => !Tryz.prog.wantsStandIn t) = true := by kernel_rfl
        have := (Array.all_eq_true'.1 cZ) t (Array.mem_of_getElem? bN)
        have G : Tryz.prog.wantsStandIn t = false := by simpa using this
        exact G⟩)
    (by kernel_rfl)
#print axioms circleTells_holds
end Go.Proofs.YtplehnijfhgclaaGreatDoor.circleTells
