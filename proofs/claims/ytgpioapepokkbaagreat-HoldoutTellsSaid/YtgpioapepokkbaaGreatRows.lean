/-
  No cell of these rows narrows 'for every input' (looked for: loops, veiled, ifaces, maps, wideKeys, modest, calm, conditions, laid).
  DERIVED. THE GIVEN ROWS OF THIS SEAT. 8 by the template 'for every input the law returns true; each argument reads behind the call as it read before'; 0 by the template 'total and deterministic' (their statements: YtgpioapepokkbaaGreatTotals.lean).
  GIVEN WITH THE SEED: the statements are not yours to turn. If you find one false, say at which input.
  Laid BY PROGRAM, IN A SANDBOX (cutbox-rows.mjs): the forced cells as the released guide's own fill.sh prints them over the translation 9cc911e296dd3c71… (all of the seat's roots in one cut). By AI agents, Wed Nov 11 2026. No macro, syntax, notation, axiom, sorry.
-/
import Derived.Test.YtgpioapepokkbaaGreatChecked
import GoSem.Claim
import GoSem.ClaimJoined
import GoSem.ClaimMapViews
import Derived.JoinedTies
import Derived.KernelRfl
namespace Go.Proofs.YtgpioapepokkbaaGreat
/- THE CELL 'sum', in the pinned program and in every row, IS THE sha256 OF THE DUMP (.gsa) THAT YtgpioapepokkbaaGreatProg.lean LOADS. Nothing in Lean hashes anything: it is a label: what it is worth is what the hold of that sum in a sandbox is worth. -/
noncomputable def Tryz.pinned : Pinned := { name := "ytgpioapepokkbaagreat", sum := "9cc911e296dd3c712fb9716ee010728b4908cf86a9f4323a96c9a196450436ab", checked := Tryz.checked }
namespace Rows
def none {H : Type} : Left H := { results := [], args := [] }

/-- 'consollaw37.HoldoutTells': WHATEVER THE INPUT: true; the input reads as it did. -/
def holdoutTellsSpec : ChangeSpec := { name := "holdoutTells", fn := fun _ => fun
  | [d1, d2] => { results := [.lit (.bool true)], args := [d1, d2] }
  | _ => none }
def holdoutTellsRow : OpenClaim := { program := "ytgpioapepokkbaagreat", sum := "9cc911e296dd3c712fb9716ee010728b4908cf86a9f4323a96c9a196450436ab", func := "consol/consollaw37.HoldoutTells", spec := "holdoutTells", unfollowed := true, recurses := true, apart := false }
def HoldoutTellsSaid : Prop := holdoutTellsRow.holds Tryz.pinned (OpenSpec.ofChange holdoutTellsSpec)

/-- ITS FALSE NEIGHBOUR: 'it returns false'. Refute it at one input. -/
def holdoutTellsWrong : ChangeSpec := { name := "holdoutTells", fn := fun _ => fun
  | [d1, d2] => { results := [.lit (.bool false)], args := [d1, d2] }
  | _ => none }
def HoldoutTellsWrongFalsely : Prop := holdoutTellsRow.holds Tryz.pinned (OpenSpec.ofChange holdoutTellsWrong)

/-- 'consollaw21.ProofTells': WHATEVER THE INPUT: true; the input reads as it did. -/
def proofTellsSpec : ChangeSpec := { name := "proofTells", fn := fun _ => fun
  | [d1, d2, d3] => { results := [.lit (.bool true)], args := [d1, d2, d3] }
  | _ => none }
def proofTellsRow : OpenClaim := { program := "ytgpioapepokkbaagreat", sum := "9cc911e296dd3c712fb9716ee010728b4908cf86a9f4323a96c9a196450436ab", func := "consol/consollaw21.ProofTells", spec := "proofTells", unfollowed := true, recurses := true, apart := false }
def ProofTellsSaid : Prop := proofTellsRow.holds Tryz.pinned (OpenSpec.ofChange proofTellsSpec)

/-- ITS FALSE NEIGHBOUR: 'it returns false'. Refute it at one input. -/
def proofTellsWrong : ChangeSpec := { name := "proofTells", fn := fun _ => fun
  | [d1, d2, d3] => { results := [.lit (.bool false)], args := [d1, d2, d3] }
  | _ => none }
def ProofTellsWrongFalsely : Prop := proofTellsRow.holds Tryz.pinned (OpenSpec.ofChange proofTellsWrong)

/-- 'consollaw21.ProofOne': WHATEVER THE INPUT: true; the input reads as it did. -/
def proofOneSpec : ChangeSpec := { name := "proofOne", fn := fun _ => fun
  | [d1, d2, d3] => { results := [.lit (.bool true)], args := [d1, d2, d3] }
  | _ => none }
def proofOneRow : OpenClaim := { program := "ytgpioapepokkbaagreat", sum := "9cc911e296dd3c712fb9716ee010728b4908cf86a9f4323a96c9a196450436ab", func := "consol/consollaw21.ProofOne", spec := "proofOne", unfollowed := true, recurses := true, apart := false }
def ProofOneSaid : Prop := proofOneRow.holds Tryz.pinned (OpenSpec.ofChange proofOneSpec)

/-- ITS FALSE NEIGHBOUR: 'it returns false'. Refute it at one input. -/
def proofOneWrong : ChangeSpec := { name := "proofOne", fn := fun _ => fun
  | [d1, d2, d3] => { results := [.lit (.bool false)], args := [d1, d2, d3] }
  | _ => none }
def ProofOneWrongFalsely : Prop := proofOneRow.holds Tryz.pinned (OpenSpec.ofChange proofOneWrong)

/-- 'consollaw21.ProofGreatest': WHATEVER THE INPUT: true; the input reads as it did. -/
def proofGreatestSpec : ChangeSpec := { name := "proofGreatest", fn := fun _ => fun
  | [d1, d2, d3] => { results := [.lit (.bool true)], args := [d1, d2, d3] }
  | _ => none }
def proofGreatestRow : OpenClaim := { program := "ytgpioapepokkbaagreat", sum := "9cc911e296dd3c712fb9716ee010728b4908cf86a9f4323a96c9a196450436ab", func := "consol/consollaw21.ProofGreatest", spec := "proofGreatest", unfollowed := true, recurses := true, apart := false }
def ProofGreatestSaid : Prop := proofGreatestRow.holds Tryz.pinned (OpenSpec.ofChange proofGreatestSpec)

/-- ITS FALSE NEIGHBOUR: 'it returns false'. Refute it at one input. -/
def proofGreatestWrong : ChangeSpec := { name := "proofGreatest", fn := fun _ => fun
  | [d1, d2, d3] => { results := [.lit (.bool false)], args := [d1, d2, d3] }
  | _ => none }
def ProofGreatestWrongFalsely : Prop := proofGreatestRow.holds Tryz.pinned (OpenSpec.ofChange proofGreatestWrong)

/-- 'consollaw21.ProofRefuses': WHATEVER THE INPUT: true; the input reads as it did. -/
def proofRefusesSpec : ChangeSpec := { name := "proofRefuses", fn := fun _ => fun
  | [d1, d2, d3, d4] => { results := [.lit (.bool true)], args := [d1, d2, d3, d4] }
  | _ => none }
def proofRefusesRow : OpenClaim := { program := "ytgpioapepokkbaagreat", sum := "9cc911e296dd3c712fb9716ee010728b4908cf86a9f4323a96c9a196450436ab", func := "consol/consollaw21.ProofRefuses", spec := "proofRefuses", unfollowed := true, recurses := true, apart := false }
def ProofRefusesSaid : Prop := proofRefusesRow.holds Tryz.pinned (OpenSpec.ofChange proofRefusesSpec)

/-- ITS FALSE NEIGHBOUR: 'it returns false'. Refute it at one input. -/
def proofRefusesWrong : ChangeSpec := { name := "proofRefuses", fn := fun _ => fun
  | [d1, d2, d3, d4] => { results := [.lit (.bool false)], args := [d1, d2, d3, d4] }
  | _ => none }
def ProofRefusesWrongFalsely : Prop := proofRefusesRow.holds Tryz.pinned (OpenSpec.ofChange proofRefusesWrong)

/-- 'consollaw21.ProofSums': WHATEVER THE INPUT: true; the input reads as it did. -/
def proofSumsSpec : ChangeSpec := { name := "proofSums", fn := fun _ => fun
  | [d1, d2, d3, d4] => { results := [.lit (.bool true)], args := [d1, d2, d3, d4] }
  | _ => none }
def proofSumsRow : OpenClaim := { program := "ytgpioapepokkbaagreat", sum := "9cc911e296dd3c712fb9716ee010728b4908cf86a9f4323a96c9a196450436ab", func := "consol/consollaw21.ProofSums", spec := "proofSums", unfollowed := true, recurses := true, apart := false }
def ProofSumsSaid : Prop := proofSumsRow.holds Tryz.pinned (OpenSpec.ofChange proofSumsSpec)

/-- ITS FALSE NEIGHBOUR: 'it returns false'. Refute it at one input. -/
def proofSumsWrong : ChangeSpec := { name := "proofSums", fn := fun _ => fun
  | [d1, d2, d3, d4] => { results := [.lit (.bool false)], args := [d1, d2, d3, d4] }
  | _ => none }
def ProofSumsWrongFalsely : Prop := proofSumsRow.holds Tryz.pinned (OpenSpec.ofChange proofSumsWrong)

/-- 'consollaw22.RescueLeast': WHATEVER THE INPUT: true; the input reads as it did. -/
def rescueLeastSpec : ChangeSpec := { name := "rescueLeast", fn := fun _ => fun
  | [d1, d2, d3, d4] => { results := [.lit (.bool true)], args := [d1, d2, d3, d4] }
  | _ => none }
def rescueLeastRow : OpenClaim := { program := "ytgpioapepokkbaagreat", sum := "9cc911e296dd3c712fb9716ee010728b4908cf86a9f4323a96c9a196450436ab", func := "consol/consollaw22.RescueLeast", spec := "rescueLeast", unfollowed := true, recurses := true, apart := false }
def RescueLeastSaid : Prop := rescueLeastRow.holds Tryz.pinned (OpenSpec.ofChange rescueLeastSpec)

/-- ITS FALSE NEIGHBOUR: 'it returns false'. Refute it at one input. -/
def rescueLeastWrong : ChangeSpec := { name := "rescueLeast", fn := fun _ => fun
  | [d1, d2, d3, d4] => { results := [.lit (.bool false)], args := [d1, d2, d3, d4] }
  | _ => none }
def RescueLeastWrongFalsely : Prop := rescueLeastRow.holds Tryz.pinned (OpenSpec.ofChange rescueLeastWrong)

/-- 'consollaw37.HoldoutPaid': WHATEVER THE INPUT: true; the input reads as it did. -/
def holdoutPaidSpec : ChangeSpec := { name := "holdoutPaid", fn := fun _ => fun
  | [d1, d2] => { results := [.lit (.bool true)], args := [d1, d2] }
  | _ => none }
def holdoutPaidRow : OpenClaim := { program := "ytgpioapepokkbaagreat", sum := "9cc911e296dd3c712fb9716ee010728b4908cf86a9f4323a96c9a196450436ab", func := "consol/consollaw37.HoldoutPaid", spec := "holdoutPaid", unfollowed := true, recurses := true, apart := false }
def HoldoutPaidSaid : Prop := holdoutPaidRow.holds Tryz.pinned (OpenSpec.ofChange holdoutPaidSpec)

/-- ITS FALSE NEIGHBOUR: 'it returns false'. Refute it at one input. -/
def holdoutPaidWrong : ChangeSpec := { name := "holdoutPaid", fn := fun _ => fun
  | [d1, d2] => { results := [.lit (.bool false)], args := [d1, d2] }
  | _ => none }
def HoldoutPaidWrongFalsely : Prop := holdoutPaidRow.holds Tryz.pinned (OpenSpec.ofChange holdoutPaidWrong)

/- THE SECOND FORM. 'bulk': how many values and letters a reading holds, each counted each time it is reached (what is shared counts as often as it is met; a slice's spare places count too). A statement '..UptoSaid' is the law's where the arguments, and the package variables that the reading takes, are together of bulk at most 1048576: NARROWER than '..Said'. Prove '..Said' where nothing that the law and all that it calls make is longer than what came in: it says more and counts as full. Else prove '..UptoSaid'. A law counts once. -/
mutual
def uptoBulk {H : Type} : DataW H → Nat
  | .lit (.string bytes) => bytes.length + 1
  | .lit _ => 1
  | .nil => 1
  | .ptr d => uptoBulk d + 1
  | .slice elems spare => uptoBulkAll elems + uptoBulkAll spare + 1
  | .agg parts => uptoBulkAll parts + 1
  | .iface _ d => uptoBulk d + 1
  | .map entries => uptoBulkEntries entries + 1
  | .held _ => 1
def uptoBulkAll {H : Type} : List (DataW H) → Nat
  | [] => 0
  | d :: r => uptoBulk d + uptoBulkAll r
def uptoBulkEntries {H : Type} : List (Lit × DataW H) → Nat
  | [] => 0
  | x :: r => uptoBulkEntry x + uptoBulkEntries r
def uptoBulkEntry {H : Type} : Lit × DataW H → Nat
  | (.string bytes, d) => bytes.length + uptoBulk d + 1
  | (_, d) => uptoBulk d + 1
 end
def uptoSmall : (H : Type) → List (DataW H) → Bool := fun _ ds => decide (uptoBulkAll ds ≤ 1048576)
def OpenSpec.upto (s : _root_.Go.ChangeSpec) : _root_.Go.OpenSpec := { _root_.Go.OpenSpec.ofChange s with cond := some uptoSmall }

/-- 'consollaw37.HoldoutTells', WHERE WHAT IT READS IS OF BULK AT MOST 1048576: true; the input reads as it did. -/
def holdoutTellsUptoRow : OpenClaim := { program := "ytgpioapepokkbaagreat", sum := "9cc911e296dd3c712fb9716ee010728b4908cf86a9f4323a96c9a196450436ab", func := "consol/consollaw37.HoldoutTells", spec := "holdoutTells", unfollowed := true, recurses := true, apart := false, narrowed := true }
def HoldoutTellsUptoSaid : Prop := holdoutTellsUptoRow.holds Tryz.pinned (OpenSpec.upto holdoutTellsSpec)

/-- 'consollaw21.ProofTells', WHERE WHAT IT READS IS OF BULK AT MOST 1048576: true; the input reads as it did. -/
def proofTellsUptoRow : OpenClaim := { program := "ytgpioapepokkbaagreat", sum := "9cc911e296dd3c712fb9716ee010728b4908cf86a9f4323a96c9a196450436ab", func := "consol/consollaw21.ProofTells", spec := "proofTells", unfollowed := true, recurses := true, apart := false, narrowed := true }
def ProofTellsUptoSaid : Prop := proofTellsUptoRow.holds Tryz.pinned (OpenSpec.upto proofTellsSpec)

/-- 'consollaw21.ProofOne', WHERE WHAT IT READS IS OF BULK AT MOST 1048576: true; the input reads as it did. -/
def proofOneUptoRow : OpenClaim := { program := "ytgpioapepokkbaagreat", sum := "9cc911e296dd3c712fb9716ee010728b4908cf86a9f4323a96c9a196450436ab", func := "consol/consollaw21.ProofOne", spec := "proofOne", unfollowed := true, recurses := true, apart := false, narrowed := true }
def ProofOneUptoSaid : Prop := proofOneUptoRow.holds Tryz.pinned (OpenSpec.upto proofOneSpec)

/-- 'consollaw21.ProofGreatest', WHERE WHAT IT READS IS OF BULK AT MOST 1048576: true; the input reads as it did. -/
def proofGreatestUptoRow : OpenClaim := { program := "ytgpioapepokkbaagreat", sum := "9cc911e296dd3c712fb9716ee010728b4908cf86a9f4323a96c9a196450436ab", func := "consol/consollaw21.ProofGreatest", spec := "proofGreatest", unfollowed := true, recurses := true, apart := false, narrowed := true }
def ProofGreatestUptoSaid : Prop := proofGreatestUptoRow.holds Tryz.pinned (OpenSpec.upto proofGreatestSpec)

/-- 'consollaw21.ProofRefuses', WHERE WHAT IT READS IS OF BULK AT MOST 1048576: true; the input reads as it did. -/
def proofRefusesUptoRow : OpenClaim := { program := "ytgpioapepokkbaagreat", sum := "9cc911e296dd3c712fb9716ee010728b4908cf86a9f4323a96c9a196450436ab", func := "consol/consollaw21.ProofRefuses", spec := "proofRefuses", unfollowed := true, recurses := true, apart := false, narrowed := true }
def ProofRefusesUptoSaid : Prop := proofRefusesUptoRow.holds Tryz.pinned (OpenSpec.upto proofRefusesSpec)

/-- 'consollaw21.ProofSums', WHERE WHAT IT READS IS OF BULK AT MOST 1048576: true; the input reads as it did. -/
def proofSumsUptoRow : OpenClaim := { program := "ytgpioapepokkbaagreat", sum := "9cc911e296dd3c712fb9716ee010728b4908cf86a9f4323a96c9a196450436ab", func := "consol/consollaw21.ProofSums", spec := "proofSums", unfollowed := true, recurses := true, apart := false, narrowed := true }
def ProofSumsUptoSaid : Prop := proofSumsUptoRow.holds Tryz.pinned (OpenSpec.upto proofSumsSpec)

/-- 'consollaw22.RescueLeast', WHERE WHAT IT READS IS OF BULK AT MOST 1048576: true; the input reads as it did. -/
def rescueLeastUptoRow : OpenClaim := { program := "ytgpioapepokkbaagreat", sum := "9cc911e296dd3c712fb9716ee010728b4908cf86a9f4323a96c9a196450436ab", func := "consol/consollaw22.RescueLeast", spec := "rescueLeast", unfollowed := true, recurses := true, apart := false, narrowed := true }
def RescueLeastUptoSaid : Prop := rescueLeastUptoRow.holds Tryz.pinned (OpenSpec.upto rescueLeastSpec)

/-- 'consollaw37.HoldoutPaid', WHERE WHAT IT READS IS OF BULK AT MOST 1048576: true; the input reads as it did. -/
def holdoutPaidUptoRow : OpenClaim := { program := "ytgpioapepokkbaagreat", sum := "9cc911e296dd3c712fb9716ee010728b4908cf86a9f4323a96c9a196450436ab", func := "consol/consollaw37.HoldoutPaid", spec := "holdoutPaid", unfollowed := true, recurses := true, apart := false, narrowed := true }
def HoldoutPaidUptoSaid : Prop := holdoutPaidUptoRow.holds Tryz.pinned (OpenSpec.upto holdoutPaidSpec)

end Rows
end Go.Proofs.YtgpioapepokkbaaGreat
