/- CircleOne: the statement's function answers true, and leaves its arguments as they were. No condition; the listed variable as the text lays it. -/
import Derived.Test.YtplehnijfhgclaaGreatDoorRows
import Derived.Test.YtplehnijfhgclaaGreatDoorCards
import Derived.Test.YtplehnijfhgclaaGreatDoorTie
import Derived.Test.YtplehnijfhgclaaGreatDoorM03
import Derived.Test.YtplehnijfhgclaaGreatDoorM05
import Derived.ChangeSame
import Derived.ChangeVars
import Derived.JoinedOf
import Derived.LaidLaws
import Derived.LaidHandle
import Derived.Stop.Joined
import Derived.KernelRfl
set_option linter.unusedSimpArgs false
set_option linter.unusedVariables false
set_option linter.defProp false
namespace Go.Proofs.YtplehnijfhgclaaGreatDoor.circleOne
open Go.ChangeShapes Go.WideShapes Go.ChangeAt Go.RowKit Go.Mini

theorem own : ownKnob Tryz.prog.godebug = none := by kernel_rfl
theorem schs : Tryz.f7.params.toList.mapM (qx Tryz.prog 9) = some [.st [.ay (.st [.st [.int .i64, .ay (.int .i64)], .st [.int .i64, .ay (.int .i64)]]), .ay (.st [.st [.int .i64, .ay (.int .i64)], .st [.int .i64, .ay (.int .i64)]]), .ay (.st [.int .i64, .int .i64, .st [.st [.int .i64, .ay (.int .i64)], .st [.int .i64, .ay (.int .i64)]]])], .ay (.st [.st [.int .i64, .ay (.int .i64)], .st [.int .i64, .ay (.int .i64)]])] := by kernel_rfl
theorem res : Tryz.f7.resultTypes = #[4] := by kernel_rfl
theorem fits (qz : List Mini.Data) (h : LR [.st [.ay (.st [.st [.int .i64, .ay (.int .i64)], .st [.int .i64, .ay (.int .i64)]]), .ay (.st [.st [.int .i64, .ay (.int .i64)], .st [.int .i64, .ay (.int .i64)]]), .ay (.st [.int .i64, .int .i64, .st [.st [.int .i64, .ay (.int .i64)], .st [.int .i64, .ay (.int .i64)]]])], .ay (.st [.st [.int .i64, .ay (.int .i64)], .st [.int .i64, .ay (.int .i64)]])] qz) : Pm qz = some (.same (.bool true)) := by
  obtain ⟨_, _, rfl, ⟨x, rfl, E⟩, _, _, rfl, ⟨es, ee, -, ab⟩, rfl⟩ := h
  cases ee
  obtain ⟨cap, base, ls, rfl⟩ := apu E
  obtain ⟨z, rfl⟩ := S5 ab
  have := atu cap base ls z
  rwa [avv] at this
theorem spec {H : Type} (ds : List (DataW H)) (ak : ds.length = Tryz.f7.params.toList.length) : Rows.circleOneSpec.fn H ds = { results := [.lit (.bool true)], args := ds } := by
  have h : ds.length = 2 := ak.trans (by kernel_rfl)
  obtain ⟨d0, t0, rfl, B7⟩ := YP (n := 1) h
  obtain ⟨d1, t1, rfl, iP⟩ := YP (n := 0) B7
  obtain rfl := List.eq_nil_of_length_eq_zero iP
  rfl
abbrev laid : List (String × DataW Unit) := [("consol/lex.signs", Rows.laid_consol_lex_signs)]
/-- A world that meets xv condition: xv settled one, xv variable laid. -/
noncomputable def laidWorld (os : Os) : World :=
  let b5 := World.holding Tryz.prog os ⟨#[], #[], []⟩
  { b5 with heap := b5.heap.modify 0 fun
      | .cells _ t frozen => .cells (yQ [[61, 61], [59], [44], [61], [60], [43], [45], [42], [47], [40], [41]]).toArray t frozen
      | o => o }
theorem laidWorld_met (os : Os) (args : Array Value) : laidMetH Tryz.prog laid ((laidWorld os).forCall (fun _ _ => 0) ⟨#[], args, []⟩).memory :=
  laidMetH_of_parts (laidMet_of_run' 8 (by kernel_rfl) (by kernel_rfl)) (by kernel_rfl)

set_option maxRecDepth 100000 in
theorem lifted (os : Os) (started : os.Started) (H : Type) (enc : TypeId × Value → H) :
    ReturnsInHanded {} Tryz.checked os 7 .any (fun w args => (Rows.circleOneSpec.pre enc Tryz.prog Tryz.f7 [] false w args ∧ laidMetH Tryz.prog laid w) ∧ sizedMet enc Tryz.prog Tryz.f7 (OpenSpec.ofChange Rows.circleOneSpec) false w args)
      (Rows.circleOneSpec.post enc Tryz.prog Tryz.f7 false true false false) := by
  refine returnsInHanded_of_change_and (C := Tryz.checked) (X := fun w _ => laidMetH Tryz.prog laid w) (fun _ _ _ a1 h => h.of_heap a1) own started (by kernel_rfl) Tryz.func7
    (ChangeSpec.witness_at (enc := enc) (C := Tryz.checked) (os := os) (X := fun w _ => laidMetH Tryz.prog laid w) false (laidWorld os) #[.agg #[.slice none 0 0, .slice none 0 0, .slice none 0 0], .slice none 0 0] 8 rfl (by kernel_rfl) (by kernel_rfl) (by kernel_rfl) (by kernel_rfl) (by kernel_rfl) (laidWorld_met os _)) ?_
  intro W base args ds gs before g5 gW _ _ b1 _
  exact akL aum rfl schs res Tryz.underlying4 spec fits g5 gW (avD b1)

theorem said : Rows.CircleOneSaid :=
  OpenClaim.holds_of_wide 7 Tryz.f7 rfl rfl rfl rfl rfl rfl rfl ⟨rfl, rfl, rfl, rfl, rfl⟩ rfl rfl rfl rfl rfl (by kernel_rfl) Tryz.func7 (by kernel_rfl)
    (of_decide_eq_true (by kernel_rfl)) (by unfold Func.isWrapper; first | (rw [if_pos (by decide +kernel)]; kernel_rfl) | (rw [if_neg (by decide +kernel)]; exact ⟨rfl, rfl⟩))
    (fun os started H enc _ => lifted os started H enc)

theorem circleOne_holds : Rows.CircleOneCardSaid :=
  Claim7.holds_tied_plain_at .later [] [.data] true (true, "241ca86f407cb15ec5216694255b265af67540d4bef19db8ae5c065cd00f0960") true
    said (fun _ h => by cases h) (by kernel_rfl) (fun _ h => by cases h) circleOne_row_tie rfl ⟨rfl, rfl⟩ (by kernel_rfl) rfl
    (fun f fn ag avE => by
      obtain rfl : f = 7 := Option.some.inj ((show Tryz.prog.funcNamed "consol/consollaw16.CircleOne" = some 7 by kernel_rfl).symm.trans ag) |>.symm
      obtain rfl : fn = Tryz.f7 := (Option.some.inj (Tryz.func7.symm.trans avE)).symm
      exact ⟨by kernel_rfl, fun j t bx => by
        have dn : (Tryz.f7.params.all fun t => !Tryz.prog.wantsStandIn t) = true := by kernel_rfl
        have := (Array.all_eq_true'.1 dn) t (Array.mem_of_getElem? bx)
        have G : Tryz.prog.wantsStandIn t = false := by simpa using this
        exact G⟩)
    (by kernel_rfl)
#print axioms circleOne_holds
end Go.Proofs.YtplehnijfhgclaaGreatDoor.circleOne
