/-
  NARROWER THAN 'FOR EVERY INPUT', by the rows' own cells (each row's printed sentence says how): CircleForms: loops, laid · CircleRounds: laid · CircleTells: laid · CircleGreatest: laid · CircleOne: laid · CircleValue: loops, laid.
  DERIVED. THE GIVEN ROWS OF THIS SEAT. 6 by the template 'for every input the law returns true; each argument reads behind the call as it read before'; 0 by the template 'total and deterministic' (their statements: YtplehnijfhgclaaGreatDoorTotals.lean).
  GIVEN WITH THE SEED: the statements are not yours to turn. If you find one false, say at which input.
  Laid BY PROGRAM, IN A SANDBOX (cutbox-rows.mjs): the forced cells as the released guide's own fill.sh prints them over the translation bd69059525538eee… (all of the seat's roots in one cut). By AI agents, Wed Nov 11 2026. No macro, syntax, notation, axiom, sorry.
-/
import Derived.Test.YtplehnijfhgclaaGreatDoorChecked
import GoSem.Claim
import GoSem.ClaimJoined
import GoSem.ClaimMapViews
import Derived.JoinedTies
import Derived.KernelRfl
namespace Go.Proofs.YtplehnijfhgclaaGreatDoor
/- THE CELL 'sum', in the pinned program and in every row, IS THE sha256 OF THE DUMP (.gsa) THAT YtplehnijfhgclaaGreatDoorProg.lean LOADS. Nothing in Lean hashes anything: it is a label: what it is worth is what the hold of that sum in a sandbox is worth. -/
noncomputable def Tryz.pinned : Pinned := { name := "ytplehnijfhgclaagreatdoor", sum := "bd69059525538eee9f14fe1dce59b2cb44f6b60187dcf953b163e796ca177c14", checked := Tryz.checked }
namespace Rows
def none {H : Type} : Left H := { results := [], args := [] }

/- WHAT THE LISTED PACKAGE-LEVEL VARIABLES READ AS WHEN THE CALL BEGINS. Each datum BY PROGRAM (the guide's laid-datum.mjs) off the statement by which the dump's own 'gosem.cut.vars' lays the variable. In a bare row this is a premise. The card (YtplehnijfhgclaaGreatDoorCards.lean) ties it to the program's text. -/
def laid_consol_lex_signs {H : Type} : DataW H := .agg [.lit (.string [61, 61]), .lit (.string [59]), .lit (.string [44]), .lit (.string [61]), .lit (.string [60]), .lit (.string [43]), .lit (.string [45]), .lit (.string [42]), .lit (.string [47]), .lit (.string [40]), .lit (.string [41])]

/-- 'consollaw16.CircleForms': WHATEVER THE INPUT: true; the input reads as it did. -/
def circleFormsSpec : ChangeSpec := { name := "circleForms", fn := fun _ => fun
  | [d1, d2, d3] => { results := [.lit (.bool true)], args := [d1, d2, d3] }
  | _ => none }
def circleFormsRow : OpenClaim := { program := "ytplehnijfhgclaagreatdoor", sum := "bd69059525538eee9f14fe1dce59b2cb44f6b60187dcf953b163e796ca177c14", func := "consol/consollaw16.CircleForms", spec := "circleForms", unfollowed := true, recurses := true, named := ["consol/lex.signs"], loops := true, apart := false, laid := [("consol/lex.signs", laid_consol_lex_signs)] }
def CircleFormsSaid : Prop := circleFormsRow.holds Tryz.pinned (OpenSpec.ofChange circleFormsSpec)

/-- ITS FALSE NEIGHBOUR: 'it returns false'. Refute it at one input. -/
def circleFormsWrong : ChangeSpec := { name := "circleForms", fn := fun _ => fun
  | [d1, d2, d3] => { results := [.lit (.bool false)], args := [d1, d2, d3] }
  | _ => none }
def CircleFormsWrongFalsely : Prop := circleFormsRow.holds Tryz.pinned (OpenSpec.ofChange circleFormsWrong)

/-- 'consollaw16.CircleRounds': WHATEVER THE INPUT: true; the input reads as it did. -/
def circleRoundsSpec : ChangeSpec := { name := "circleRounds", fn := fun _ => fun
  | [d1, d2, d3] => { results := [.lit (.bool true)], args := [d1, d2, d3] }
  | _ => none }
def circleRoundsRow : OpenClaim := { program := "ytplehnijfhgclaagreatdoor", sum := "bd69059525538eee9f14fe1dce59b2cb44f6b60187dcf953b163e796ca177c14", func := "consol/consollaw16.CircleRounds", spec := "circleRounds", unfollowed := true, recurses := true, named := ["consol/lex.signs"], apart := false, laid := [("consol/lex.signs", laid_consol_lex_signs)] }
def CircleRoundsSaid : Prop := circleRoundsRow.holds Tryz.pinned (OpenSpec.ofChange circleRoundsSpec)

/-- ITS FALSE NEIGHBOUR: 'it returns false'. Refute it at one input. -/
def circleRoundsWrong : ChangeSpec := { name := "circleRounds", fn := fun _ => fun
  | [d1, d2, d3] => { results := [.lit (.bool false)], args := [d1, d2, d3] }
  | _ => none }
def CircleRoundsWrongFalsely : Prop := circleRoundsRow.holds Tryz.pinned (OpenSpec.ofChange circleRoundsWrong)

/-- 'consollaw16.CircleTells': WHATEVER THE INPUT: true; the input reads as it did. -/
def circleTellsSpec : ChangeSpec := { name := "circleTells", fn := fun _ => fun
  | [d1, d2, d3] => { results := [.lit (.bool true)], args := [d1, d2, d3] }
  | _ => none }
def circleTellsRow : OpenClaim := { program := "ytplehnijfhgclaagreatdoor", sum := "bd69059525538eee9f14fe1dce59b2cb44f6b60187dcf953b163e796ca177c14", func := "consol/consollaw16.CircleTells", spec := "circleTells", unfollowed := true, recurses := true, named := ["consol/lex.signs"], apart := false, laid := [("consol/lex.signs", laid_consol_lex_signs)] }
def CircleTellsSaid : Prop := circleTellsRow.holds Tryz.pinned (OpenSpec.ofChange circleTellsSpec)

/-- ITS FALSE NEIGHBOUR: 'it returns false'. Refute it at one input. -/
def circleTellsWrong : ChangeSpec := { name := "circleTells", fn := fun _ => fun
  | [d1, d2, d3] => { results := [.lit (.bool false)], args := [d1, d2, d3] }
  | _ => none }
def CircleTellsWrongFalsely : Prop := circleTellsRow.holds Tryz.pinned (OpenSpec.ofChange circleTellsWrong)

/-- 'consollaw16.CircleGreatest': WHATEVER THE INPUT: true; the input reads as it did. -/
def circleGreatestSpec : ChangeSpec := { name := "circleGreatest", fn := fun _ => fun
  | [d1, d2] => { results := [.lit (.bool true)], args := [d1, d2] }
  | _ => none }
def circleGreatestRow : OpenClaim := { program := "ytplehnijfhgclaagreatdoor", sum := "bd69059525538eee9f14fe1dce59b2cb44f6b60187dcf953b163e796ca177c14", func := "consol/consollaw16.CircleGreatest", spec := "circleGreatest", unfollowed := true, recurses := true, named := ["consol/lex.signs"], apart := false, laid := [("consol/lex.signs", laid_consol_lex_signs)] }
def CircleGreatestSaid : Prop := circleGreatestRow.holds Tryz.pinned (OpenSpec.ofChange circleGreatestSpec)

/-- ITS FALSE NEIGHBOUR: 'it returns false'. Refute it at one input. -/
def circleGreatestWrong : ChangeSpec := { name := "circleGreatest", fn := fun _ => fun
  | [d1, d2] => { results := [.lit (.bool false)], args := [d1, d2] }
  | _ => none }
def CircleGreatestWrongFalsely : Prop := circleGreatestRow.holds Tryz.pinned (OpenSpec.ofChange circleGreatestWrong)

/-- 'consollaw16.CircleOne': WHATEVER THE INPUT: true; the input reads as it did. -/
def circleOneSpec : ChangeSpec := { name := "circleOne", fn := fun _ => fun
  | [d1, d2] => { results := [.lit (.bool true)], args := [d1, d2] }
  | _ => none }
def circleOneRow : OpenClaim := { program := "ytplehnijfhgclaagreatdoor", sum := "bd69059525538eee9f14fe1dce59b2cb44f6b60187dcf953b163e796ca177c14", func := "consol/consollaw16.CircleOne", spec := "circleOne", unfollowed := true, recurses := true, named := ["consol/lex.signs"], apart := false, laid := [("consol/lex.signs", laid_consol_lex_signs)] }
def CircleOneSaid : Prop := circleOneRow.holds Tryz.pinned (OpenSpec.ofChange circleOneSpec)

/-- ITS FALSE NEIGHBOUR: 'it returns false'. Refute it at one input. -/
def circleOneWrong : ChangeSpec := { name := "circleOne", fn := fun _ => fun
  | [d1, d2] => { results := [.lit (.bool false)], args := [d1, d2] }
  | _ => none }
def CircleOneWrongFalsely : Prop := circleOneRow.holds Tryz.pinned (OpenSpec.ofChange circleOneWrong)

/-- 'consollaw16.CircleValue': WHATEVER THE INPUT: true; the input reads as it did. -/
def circleValueSpec : ChangeSpec := { name := "circleValue", fn := fun _ => fun
  | [d1, d2, d3, d4] => { results := [.lit (.bool true)], args := [d1, d2, d3, d4] }
  | _ => none }
def circleValueRow : OpenClaim := { program := "ytplehnijfhgclaagreatdoor", sum := "bd69059525538eee9f14fe1dce59b2cb44f6b60187dcf953b163e796ca177c14", func := "consol/consollaw16.CircleValue", spec := "circleValue", unfollowed := true, recurses := true, named := ["consol/lex.signs"], loops := true, apart := false, laid := [("consol/lex.signs", laid_consol_lex_signs)] }
def CircleValueSaid : Prop := circleValueRow.holds Tryz.pinned (OpenSpec.ofChange circleValueSpec)

/-- ITS FALSE NEIGHBOUR: 'it returns false'. Refute it at one input. -/
def circleValueWrong : ChangeSpec := { name := "circleValue", fn := fun _ => fun
  | [d1, d2, d3, d4] => { results := [.lit (.bool false)], args := [d1, d2, d3, d4] }
  | _ => none }
def CircleValueWrongFalsely : Prop := circleValueRow.holds Tryz.pinned (OpenSpec.ofChange circleValueWrong)

/- THE SECOND FORM. 'bulk': how many values and letters a reading holds, each counted each time it is reached (what is shared counts as often as it is met; a slice's spare places count too). A statement '..UptoSaid' is the law's where the arguments, and the package variables that the reading takes, are together of bulk at most 1048576: NARROWER than '..Said'. Prove '..Said' where nothing that the law and all that it calls make is longer than what came in: it says more and counts as full. Else prove '..UptoSaid'. A law counts once. -/
mutual
def uptoBulk {H : Type} : DataW H → Nat
  | .lit (.string bytes) => bytes.length + 1
  | .lit _ => 1
  | .nil => 1
  | .ptr d => uptoBulk d + 1
  | .slice elems spare => uptoBulkAll elems + uptoBulkAll spare + 1
  | .agg parts => uptoBulkAll parts + 1
  | .iface _ d => uptoBulk d + 1
  | .map entries => uptoBulkEntries entries + 1
  | .held _ => 1
def uptoBulkAll {H : Type} : List (DataW H) → Nat
  | [] => 0
  | d :: r => uptoBulk d + uptoBulkAll r
def uptoBulkEntries {H : Type} : List (Lit × DataW H) → Nat
  | [] => 0
  | x :: r => uptoBulkEntry x + uptoBulkEntries r
def uptoBulkEntry {H : Type} : Lit × DataW H → Nat
  | (.string bytes, d) => bytes.length + uptoBulk d + 1
  | (_, d) => uptoBulk d + 1
 end
def uptoSmall : (H : Type) → List (DataW H) → Bool := fun _ ds => decide (uptoBulkAll ds ≤ 1048576)
def OpenSpec.upto (s : _root_.Go.ChangeSpec) : _root_.Go.OpenSpec := { _root_.Go.OpenSpec.ofChange s with cond := some uptoSmall }

/-- 'consollaw16.CircleForms', WHERE WHAT IT READS IS OF BULK AT MOST 1048576: true; the input reads as it did. -/
def circleFormsUptoRow : OpenClaim := { program := "ytplehnijfhgclaagreatdoor", sum := "bd69059525538eee9f14fe1dce59b2cb44f6b60187dcf953b163e796ca177c14", func := "consol/consollaw16.CircleForms", spec := "circleForms", unfollowed := true, recurses := true, named := ["consol/lex.signs"], loops := true, apart := false, laid := [("consol/lex.signs", laid_consol_lex_signs)], narrowed := true }
def CircleFormsUptoSaid : Prop := circleFormsUptoRow.holds Tryz.pinned (OpenSpec.upto circleFormsSpec)

/-- 'consollaw16.CircleRounds', WHERE WHAT IT READS IS OF BULK AT MOST 1048576: true; the input reads as it did. -/
def circleRoundsUptoRow : OpenClaim := { program := "ytplehnijfhgclaagreatdoor", sum := "bd69059525538eee9f14fe1dce59b2cb44f6b60187dcf953b163e796ca177c14", func := "consol/consollaw16.CircleRounds", spec := "circleRounds", unfollowed := true, recurses := true, named := ["consol/lex.signs"], apart := false, laid := [("consol/lex.signs", laid_consol_lex_signs)], narrowed := true }
def CircleRoundsUptoSaid : Prop := circleRoundsUptoRow.holds Tryz.pinned (OpenSpec.upto circleRoundsSpec)

/-- 'consollaw16.CircleTells', WHERE WHAT IT READS IS OF BULK AT MOST 1048576: true; the input reads as it did. -/
def circleTellsUptoRow : OpenClaim := { program := "ytplehnijfhgclaagreatdoor", sum := "bd69059525538eee9f14fe1dce59b2cb44f6b60187dcf953b163e796ca177c14", func := "consol/consollaw16.CircleTells", spec := "circleTells", unfollowed := true, recurses := true, named := ["consol/lex.signs"], apart := false, laid := [("consol/lex.signs", laid_consol_lex_signs)], narrowed := true }
def CircleTellsUptoSaid : Prop := circleTellsUptoRow.holds Tryz.pinned (OpenSpec.upto circleTellsSpec)

/-- 'consollaw16.CircleGreatest', WHERE WHAT IT READS IS OF BULK AT MOST 1048576: true; the input reads as it did. -/
def circleGreatestUptoRow : OpenClaim := { program := "ytplehnijfhgclaagreatdoor", sum := "bd69059525538eee9f14fe1dce59b2cb44f6b60187dcf953b163e796ca177c14", func := "consol/consollaw16.CircleGreatest", spec := "circleGreatest", unfollowed := true, recurses := true, named := ["consol/lex.signs"], apart := false, laid := [("consol/lex.signs", laid_consol_lex_signs)], narrowed := true }
def CircleGreatestUptoSaid : Prop := circleGreatestUptoRow.holds Tryz.pinned (OpenSpec.upto circleGreatestSpec)

/-- 'consollaw16.CircleOne', WHERE WHAT IT READS IS OF BULK AT MOST 1048576: true; the input reads as it did. -/
def circleOneUptoRow : OpenClaim := { program := "ytplehnijfhgclaagreatdoor", sum := "bd69059525538eee9f14fe1dce59b2cb44f6b60187dcf953b163e796ca177c14", func := "consol/consollaw16.CircleOne", spec := "circleOne", unfollowed := true, recurses := true, named := ["consol/lex.signs"], apart := false, laid := [("consol/lex.signs", laid_consol_lex_signs)], narrowed := true }
def CircleOneUptoSaid : Prop := circleOneUptoRow.holds Tryz.pinned (OpenSpec.upto circleOneSpec)

/-- 'consollaw16.CircleValue', WHERE WHAT IT READS IS OF BULK AT MOST 1048576: true; the input reads as it did. -/
def circleValueUptoRow : OpenClaim := { program := "ytplehnijfhgclaagreatdoor", sum := "bd69059525538eee9f14fe1dce59b2cb44f6b60187dcf953b163e796ca177c14", func := "consol/consollaw16.CircleValue", spec := "circleValue", unfollowed := true, recurses := true, named := ["consol/lex.signs"], loops := true, apart := false, laid := [("consol/lex.signs", laid_consol_lex_signs)], narrowed := true }
def CircleValueUptoSaid : Prop := circleValueUptoRow.holds Tryz.pinned (OpenSpec.upto circleValueSpec)

end Rows
end Go.Proofs.YtplehnijfhgclaaGreatDoor
