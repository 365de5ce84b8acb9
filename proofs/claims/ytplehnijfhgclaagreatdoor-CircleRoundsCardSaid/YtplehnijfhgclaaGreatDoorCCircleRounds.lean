/- CircleRounds: the statement's function answers true, and leaves its arguments as they were. No condition; the listed variable as the text lays it. -/
import Derived.Test.YtplehnijfhgclaaGreatDoorRows
import Derived.Test.YtplehnijfhgclaaGreatDoorCards
import Derived.Test.YtplehnijfhgclaaGreatDoorTie
import Derived.Test.YtplehnijfhgclaaGreatDoorM03
import Derived.Test.YtplehnijfhgclaaGreatDoorM05
import Derived.ChangeSame
import Derived.ChangeVars
import Derived.JoinedOf
import Derived.LaidLaws
import Derived.LaidHandle
import Derived.Stop.Joined
import Derived.KernelRfl
set_option linter.unusedSimpArgs false
set_option linter.unusedVariables false
set_option linter.defProp false
namespace Go.Proofs.YtplehnijfhgclaaGreatDoor.circleRounds
open Go.ChangeShapes Go.WideShapes Go.ChangeAt Go.RowKit Go.Mini

theorem own : ownKnob Tryz.prog.godebug = none := by kernel_rfl
theorem schs : Tryz.f4.params.toList.mapM (qn Tryz.prog 9) = some [.st [.ay (.st [.st [.int .i64, .ay (.int .i64)], .st [.int .i64, .ay (.int .i64)]]), .ay (.st [.st [.int .i64, .ay (.int .i64)], .st [.int .i64, .ay (.int .i64)]]), .ay (.st [.int .i64, .int .i64, .st [.st [.int .i64, .ay (.int .i64)], .st [.int .i64, .ay (.int .i64)]]])], .int .u8, .st [.st [.int .i64, .ay (.int .i64)], .st [.int .i64, .ay (.int .i64)]]] := by kernel_rfl
theorem res : Tryz.f4.resultTypes = #[4] := by kernel_rfl
theorem fits (qq : List Mini.Data) (h : LK [.st [.ay (.st [.st [.int .i64, .ay (.int .i64)], .st [.int .i64, .ay (.int .i64)]]), .ay (.st [.st [.int .i64, .ay (.int .i64)], .st [.int .i64, .ay (.int .i64)]]), .ay (.st [.int .i64, .int .i64, .st [.st [.int .i64, .ay (.int .i64)], .st [.int .i64, .ay (.int .i64)]]])], .int .u8, .st [.st [.int .i64, .ay (.int .i64)], .st [.int .i64, .ay (.int .i64)]]] qq) : Po qq = some (.same (.bool true)) := by
  obtain ⟨_, _, rfl, ⟨x, rfl, E⟩, _, _, rfl, ⟨k, ax, gi⟩, _, _, rfl, ⟨cs, eo, ad⟩, rfl⟩ := h
  cases ax; cases eo
  obtain ⟨cap, base, ls, rfl⟩ := ao8 E
  obtain ⟨k, rfl, Q⟩ := anu gi
  obtain ⟨⟨⟨s, a⟩, ⟨s2, b⟩⟩, rfl⟩ := S1 ad
  have := atp cap base ls k s a s2 b Q
  rwa [avo] at this
theorem spec {H : Type} (ds : List (DataW H)) (al : ds.length = Tryz.f4.params.toList.length) : Rows.circleRoundsSpec.fn H ds = { results := [.lit (.bool true)], args := ds } := by
  have h : ds.length = 3 := al.trans (by kernel_rfl)
  obtain ⟨d0, t0, rfl, B1⟩ := Q2 (n := 2) h
  obtain ⟨d1, t1, rfl, ig⟩ := Q2 (n := 1) B1
  obtain ⟨d2, t2, rfl, ab⟩ := Q2 (n := 0) ig
  obtain rfl := List.eq_nil_of_length_eq_zero ab
  rfl
abbrev laid : List (String × DataW Unit) := [("consol/lex.signs", Rows.laid_consol_lex_signs)]
/-- A world that meets xl condition: xl settled one, xl variable laid. -/
noncomputable def laidWorld (os : Os) : World :=
  let b5 := World.holding Tryz.prog os ⟨#[], #[], []⟩
  { b5 with heap := b5.heap.modify 0 fun
      | .cells _ t frozen => .cells (yD [[61, 61], [59], [44], [61], [60], [43], [45], [42], [47], [40], [41]]).toArray t frozen
      | o => o }
theorem laidWorld_met (os : Os) (args : Array Value) : laidMetH Tryz.prog laid ((laidWorld os).forCall (fun _ _ => 0) ⟨#[], args, []⟩).memory :=
  laidMetH_of_parts (laidMet_of_run' 8 (by kernel_rfl) (by kernel_rfl)) (by kernel_rfl)

set_option maxRecDepth 100000 in
theorem lifted (os : Os) (started : os.Started) (H : Type) (enc : TypeId × Value → H) :
    ReturnsInHanded {} Tryz.checked os 4 .any (fun w args => (Rows.circleRoundsSpec.pre enc Tryz.prog Tryz.f4 [] false w args ∧ laidMetH Tryz.prog laid w) ∧ sizedMet enc Tryz.prog Tryz.f4 (OpenSpec.ofChange Rows.circleRoundsSpec) false w args)
      (Rows.circleRoundsSpec.post enc Tryz.prog Tryz.f4 false true false false) := by
  refine returnsInHanded_of_change_and (C := Tryz.checked) (X := fun w _ => laidMetH Tryz.prog laid w) (fun _ _ _ a8 h => h.of_heap a8) own started (by kernel_rfl) Tryz.func4
    (ChangeSpec.witness_at (enc := enc) (C := Tryz.checked) (os := os) (X := fun w _ => laidMetH Tryz.prog laid w) false (laidWorld os) #[.agg #[.slice none 0 0, .slice none 0 0, .slice none 0 0], .int .u8 0, .agg #[.int .i64 0, .slice none 0 0, .int .i64 0, .slice none 0 0]] 8 rfl (by kernel_rfl) (by kernel_rfl) (by kernel_rfl) (by kernel_rfl) (by kernel_rfl) (laidWorld_met os _)) ?_
  intro W base args ds gs before g1 hi _ _ b2 _
  exact akn aum rfl schs res Tryz.underlying4 spec fits g1 hi (avr b2)

theorem said : Rows.CircleRoundsSaid :=
  OpenClaim.holds_of_wide 4 Tryz.f4 rfl rfl rfl rfl rfl rfl rfl ⟨rfl, rfl, rfl, rfl, rfl⟩ rfl rfl rfl rfl rfl (by kernel_rfl) Tryz.func4 (by kernel_rfl)
    (of_decide_eq_true (by kernel_rfl)) (by unfold Func.isWrapper; first | (rw [if_pos (by decide +kernel)]; kernel_rfl) | (rw [if_neg (by decide +kernel)]; exact ⟨rfl, rfl⟩))
    (fun os started H enc _ => lifted os started H enc)

theorem circleRounds_holds : Rows.CircleRoundsCardSaid :=
  Claim7.holds_tied_plain_at .later [] [.data] true (true, "241ca86f407cb15ec5216694255b265af67540d4bef19db8ae5c065cd00f0960") true
    said (fun _ h => by cases h) (by kernel_rfl) (fun _ h => by cases h) circleRounds_row_tie rfl ⟨rfl, rfl⟩ (by kernel_rfl) rfl
    (fun f fn ao avs => by
      obtain rfl : f = 4 := Option.some.inj ((show Tryz.prog.funcNamed "consol/consollaw16.CircleRounds" = some 4 by kernel_rfl).symm.trans ao) |>.symm
      obtain rfl : fn = Tryz.f4 := (Option.some.inj (Tryz.func4.symm.trans avs)).symm
      exact ⟨by kernel_rfl, fun j t bC => by
        have dQ : (Tryz.f4.params.all fun t => !Tryz.prog.wantsStandIn t) = true := by kernel_rfl
        have := (Array.all_eq_true'.1 dQ) t (Array.mem_of_getElem? bC)
        have G : Tryz.prog.wantsStandIn t = false := by simpa using this
        exact G⟩)
    (by kernel_rfl)
#print axioms circleRounds_holds
end Go.Proofs.YtplehnijfhgclaaGreatDoor.circleRounds
