/-
  No cell of these rows narrows 'for every input' (looked for: loops, veiled, ifaces, maps, wideKeys, modest, calm, conditions, laid).
  DERIVED. THE GIVEN ROWS OF THIS SEAT. 4 by the template 'for every input the law returns true; each argument reads behind the call as it read before'; 0 by the template 'total and deterministic' (their statements: YtdbkjjoedjfmpaaTotals.lean).
  GIVEN WITH THE SEED: the statements are not yours to turn. If you find one false, say at which input.
  Laid BY PROGRAM, IN A SANDBOX (cutbox-rows.mjs): the forced cells as the released guide's own fill.sh prints them over the translation d28b3fa11a8733c2… (all of the seat's roots in one cut). By AI agents, Wed Nov 11 2026. No macro, syntax, notation, axiom, sorry.
-/
import Derived.Test.YtdbkjjoedjfmpaaChecked
import GoSem.Claim
import GoSem.ClaimJoined
import GoSem.ClaimMapViews
import Derived.JoinedTies
import Derived.KernelRfl
namespace Go.Proofs.Ytdbkjjoedjfmpaa
/- THE CELL 'sum', in the pinned program and in every row, IS THE sha256 OF THE DUMP (.gsa) THAT YtdbkjjoedjfmpaaProg.lean LOADS. Nothing in Lean hashes anything: it is a label: what it is worth is what the hold of that sum in a sandbox is worth. -/
noncomputable def Try.pinned : Pinned := { name := "ytdbkjjoedjfmpaa", sum := "d28b3fa11a8733c20b11ed091f68f19f9bff87e60c7cf1a46e40d56428cfc2cb", checked := Try.checked }
namespace Rows
def none {H : Type} : Left H := { results := [], args := [] }

/-- 'consollaw20.ClearGreatest': WHATEVER THE INPUT: true; the input reads as it did. -/
def clearGreatestSpec : ChangeSpec := { name := "clearGreatest", fn := fun _ => fun
  | [d1, d2, d3] => { results := [.lit (.bool true)], args := [d1, d2, d3] }
  | _ => none }
def clearGreatestRow : OpenClaim := { program := "ytdbkjjoedjfmpaa", sum := "d28b3fa11a8733c20b11ed091f68f19f9bff87e60c7cf1a46e40d56428cfc2cb", func := "consol/consollaw20.ClearGreatest", spec := "clearGreatest", unfollowed := true, recurses := true, apart := false }
def ClearGreatestSaid : Prop := clearGreatestRow.holds Try.pinned (OpenSpec.ofChange clearGreatestSpec)

/-- ITS FALSE NEIGHBOUR: 'it returns false'. Refute it at one input. -/
def clearGreatestWrong : ChangeSpec := { name := "clearGreatest", fn := fun _ => fun
  | [d1, d2, d3] => { results := [.lit (.bool false)], args := [d1, d2, d3] }
  | _ => none }
def ClearGreatestWrongFalsely : Prop := clearGreatestRow.holds Try.pinned (OpenSpec.ofChange clearGreatestWrong)

/-- 'consollaw20.ClearMore': WHATEVER THE INPUT: true; the input reads as it did. -/
def clearMoreSpec : ChangeSpec := { name := "clearMore", fn := fun _ => fun
  | [d1, d2, d3, d4, d5] => { results := [.lit (.bool true)], args := [d1, d2, d3, d4, d5] }
  | _ => none }
def clearMoreRow : OpenClaim := { program := "ytdbkjjoedjfmpaa", sum := "d28b3fa11a8733c20b11ed091f68f19f9bff87e60c7cf1a46e40d56428cfc2cb", func := "consol/consollaw20.ClearMore", spec := "clearMore", unfollowed := true, recurses := true, apart := false }
def ClearMoreSaid : Prop := clearMoreRow.holds Try.pinned (OpenSpec.ofChange clearMoreSpec)

/-- ITS FALSE NEIGHBOUR: 'it returns false'. Refute it at one input. -/
def clearMoreWrong : ChangeSpec := { name := "clearMore", fn := fun _ => fun
  | [d1, d2, d3, d4, d5] => { results := [.lit (.bool false)], args := [d1, d2, d3, d4, d5] }
  | _ => none }
def ClearMoreWrongFalsely : Prop := clearMoreRow.holds Try.pinned (OpenSpec.ofChange clearMoreWrong)

/-- 'consollaw22.RescueTimes': WHATEVER THE INPUT: true; the input reads as it did. -/
def rescueTimesSpec : ChangeSpec := { name := "rescueTimes", fn := fun _ => fun
  | [d1, d2, d3, d4, d5, d6] => { results := [.lit (.bool true)], args := [d1, d2, d3, d4, d5, d6] }
  | _ => none }
def rescueTimesRow : OpenClaim := { program := "ytdbkjjoedjfmpaa", sum := "d28b3fa11a8733c20b11ed091f68f19f9bff87e60c7cf1a46e40d56428cfc2cb", func := "consol/consollaw22.RescueTimes", spec := "rescueTimes", unfollowed := true, recurses := true, apart := false }
def RescueTimesSaid : Prop := rescueTimesRow.holds Try.pinned (OpenSpec.ofChange rescueTimesSpec)

/-- ITS FALSE NEIGHBOUR: 'it returns false'. Refute it at one input. -/
def rescueTimesWrong : ChangeSpec := { name := "rescueTimes", fn := fun _ => fun
  | [d1, d2, d3, d4, d5, d6] => { results := [.lit (.bool false)], args := [d1, d2, d3, d4, d5, d6] }
  | _ => none }
def RescueTimesWrongFalsely : Prop := rescueTimesRow.holds Try.pinned (OpenSpec.ofChange rescueTimesWrong)

/-- 'consollaw20.ClearFalls': WHATEVER THE INPUT: true; the input reads as it did. -/
def clearFallsSpec : ChangeSpec := { name := "clearFalls", fn := fun _ => fun
  | [d1, d2] => { results := [.lit (.bool true)], args := [d1, d2] }
  | _ => none }
def clearFallsRow : OpenClaim := { program := "ytdbkjjoedjfmpaa", sum := "d28b3fa11a8733c20b11ed091f68f19f9bff87e60c7cf1a46e40d56428cfc2cb", func := "consol/consollaw20.ClearFalls", spec := "clearFalls", unfollowed := true, recurses := true, apart := false }
def ClearFallsSaid : Prop := clearFallsRow.holds Try.pinned (OpenSpec.ofChange clearFallsSpec)

/-- ITS FALSE NEIGHBOUR: 'it returns false'. Refute it at one input. -/
def clearFallsWrong : ChangeSpec := { name := "clearFalls", fn := fun _ => fun
  | [d1, d2] => { results := [.lit (.bool false)], args := [d1, d2] }
  | _ => none }
def ClearFallsWrongFalsely : Prop := clearFallsRow.holds Try.pinned (OpenSpec.ofChange clearFallsWrong)

/- THE SECOND FORM. 'bulk': how many values and letters a reading holds, each counted each time it is reached (what is shared counts as often as it is met; a slice's spare places count too). A statement '..UptoSaid' is the law's where the arguments, and the package variables that the reading takes, are together of bulk at most 1048576: NARROWER than '..Said'. Prove '..Said' where nothing that the law and all that it calls make is longer than what came in: it says more and counts as full. Else prove '..UptoSaid'. A law counts once. -/
mutual
def uptoBulk {H : Type} : DataW H → Nat
  | .lit (.string bytes) => bytes.length + 1
  | .lit _ => 1
  | .nil => 1
  | .ptr d => uptoBulk d + 1
  | .slice elems spare => uptoBulkAll elems + uptoBulkAll spare + 1
  | .agg parts => uptoBulkAll parts + 1
  | .iface _ d => uptoBulk d + 1
  | .map entries => uptoBulkEntries entries + 1
  | .held _ => 1
def uptoBulkAll {H : Type} : List (DataW H) → Nat
  | [] => 0
  | d :: r => uptoBulk d + uptoBulkAll r
def uptoBulkEntries {H : Type} : List (Lit × DataW H) → Nat
  | [] => 0
  | x :: r => uptoBulkEntry x + uptoBulkEntries r
def uptoBulkEntry {H : Type} : Lit × DataW H → Nat
  | (.string bytes, d) => bytes.length + uptoBulk d + 1
  | (_, d) => uptoBulk d + 1
 end
def uptoSmall : (H : Type) → List (DataW H) → Bool := fun _ ds => decide (uptoBulkAll ds ≤ 1048576)
def OpenSpec.upto (s : _root_.Go.ChangeSpec) : _root_.Go.OpenSpec := { _root_.Go.OpenSpec.ofChange s with cond := some uptoSmall }

/-- 'consollaw20.ClearGreatest', WHERE WHAT IT READS IS OF BULK AT MOST 1048576: true; the input reads as it did. -/
def clearGreatestUptoRow : OpenClaim := { program := "ytdbkjjoedjfmpaa", sum := "d28b3fa11a8733c20b11ed091f68f19f9bff87e60c7cf1a46e40d56428cfc2cb", func := "consol/consollaw20.ClearGreatest", spec := "clearGreatest", unfollowed := true, recurses := true, apart := false, narrowed := true }
def ClearGreatestUptoSaid : Prop := clearGreatestUptoRow.holds Try.pinned (OpenSpec.upto clearGreatestSpec)

/-- 'consollaw20.ClearMore', WHERE WHAT IT READS IS OF BULK AT MOST 1048576: true; the input reads as it did. -/
def clearMoreUptoRow : OpenClaim := { program := "ytdbkjjoedjfmpaa", sum := "d28b3fa11a8733c20b11ed091f68f19f9bff87e60c7cf1a46e40d56428cfc2cb", func := "consol/consollaw20.ClearMore", spec := "clearMore", unfollowed := true, recurses := true, apart := false, narrowed := true }
def ClearMoreUptoSaid : Prop := clearMoreUptoRow.holds Try.pinned (OpenSpec.upto clearMoreSpec)

/-- 'consollaw22.RescueTimes', WHERE WHAT IT READS IS OF BULK AT MOST 1048576: true; the input reads as it did. -/
def rescueTimesUptoRow : OpenClaim := { program := "ytdbkjjoedjfmpaa", sum := "d28b3fa11a8733c20b11ed091f68f19f9bff87e60c7cf1a46e40d56428cfc2cb", func := "consol/consollaw22.RescueTimes", spec := "rescueTimes", unfollowed := true, recurses := true, apart := false, narrowed := true }
def RescueTimesUptoSaid : Prop := rescueTimesUptoRow.holds Try.pinned (OpenSpec.upto rescueTimesSpec)

/-- 'consollaw20.ClearFalls', WHERE WHAT IT READS IS OF BULK AT MOST 1048576: true; the input reads as it did. -/
def clearFallsUptoRow : OpenClaim := { program := "ytdbkjjoedjfmpaa", sum := "d28b3fa11a8733c20b11ed091f68f19f9bff87e60c7cf1a46e40d56428cfc2cb", func := "consol/consollaw20.ClearFalls", spec := "clearFalls", unfollowed := true, recurses := true, apart := false, narrowed := true }
def ClearFallsUptoSaid : Prop := clearFallsUptoRow.holds Try.pinned (OpenSpec.upto clearFallsSpec)

end Rows
end Go.Proofs.Ytdbkjjoedjfmpaa
