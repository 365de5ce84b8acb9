/-
  No cell of these rows narrows 'for every input' (looked for: loops, veiled, ifaces, maps, wideKeys, modest, calm, conditions, laid).
  DERIVED. THE GIVEN ROWS OF THIS SEAT. 5 by the template 'for every input the law returns true; each argument reads behind the call as it read before'; 0 by the template 'total and deterministic' (their statements: YtehjaghpfnncoaaTotals.lean).
  GIVEN WITH THE SEED: the statements are not yours to turn. If you find one false, say at which input.
  Laid BY PROGRAM, IN A SANDBOX (cutbox-rows.mjs): the forced cells as the released guide's own fill.sh prints them over the translation 1843299dfed73c45… (all of the seat's roots in one cut). By AI agents, Wed Nov 11 2026. No macro, syntax, notation, axiom, sorry.
-/
import Derived.Test.YtehjaghpfnncoaaChecked
import GoSem.Claim
import GoSem.ClaimJoined
import GoSem.ClaimMapViews
import Derived.JoinedTies
import Derived.KernelRfl
namespace Go.Proofs.Ytehjaghpfnncoaa
/- THE CELL 'sum', in the pinned program and in every row, IS THE sha256 OF THE DUMP (.gsa) THAT YtehjaghpfnncoaaProg.lean LOADS. Nothing in Lean hashes anything: it is a label: what it is worth is what the hold of that sum in a sandbox is worth. -/
noncomputable def Try.pinned : Pinned := { name := "ytehjaghpfnncoaa", sum := "1843299dfed73c459a3e80cd9866bbfd1b9c3f1301e3b0b885a87e866946fb34", checked := Try.checked }
namespace Rows
def none {H : Type} : Left H := { results := [], args := [] }

/-- 'consollaw27.BreachTells': WHATEVER THE INPUT: true; the input reads as it did. -/
def breachTellsSpec : ChangeSpec := { name := "breachTells", fn := fun _ => fun
  | [d1, d2, d3, d4, d5, d6] => { results := [.lit (.bool true)], args := [d1, d2, d3, d4, d5, d6] }
  | _ => none }
def breachTellsRow : OpenClaim := { program := "ytehjaghpfnncoaa", sum := "1843299dfed73c459a3e80cd9866bbfd1b9c3f1301e3b0b885a87e866946fb34", func := "consol/consollaw27.BreachTells", spec := "breachTells", apart := false }
def BreachTellsSaid : Prop := breachTellsRow.holds Try.pinned (OpenSpec.ofChange breachTellsSpec)

/-- ITS FALSE NEIGHBOUR: 'it returns false'. Refute it at one input. -/
def breachTellsWrong : ChangeSpec := { name := "breachTells", fn := fun _ => fun
  | [d1, d2, d3, d4, d5, d6] => { results := [.lit (.bool false)], args := [d1, d2, d3, d4, d5, d6] }
  | _ => none }
def BreachTellsWrongFalsely : Prop := breachTellsRow.holds Try.pinned (OpenSpec.ofChange breachTellsWrong)

/-- 'consollaw27.BreachStory': WHATEVER THE INPUT: true; the input reads as it did. -/
def breachStorySpec : ChangeSpec := { name := "breachStory", fn := fun _ => fun
  | [d1, d2, d3] => { results := [.lit (.bool true)], args := [d1, d2, d3] }
  | _ => none }
def breachStoryRow : OpenClaim := { program := "ytehjaghpfnncoaa", sum := "1843299dfed73c459a3e80cd9866bbfd1b9c3f1301e3b0b885a87e866946fb34", func := "consol/consollaw27.BreachStory", spec := "breachStory", apart := false }
def BreachStorySaid : Prop := breachStoryRow.holds Try.pinned (OpenSpec.ofChange breachStorySpec)

/-- ITS FALSE NEIGHBOUR: 'it returns false'. Refute it at one input. -/
def breachStoryWrong : ChangeSpec := { name := "breachStory", fn := fun _ => fun
  | [d1, d2, d3] => { results := [.lit (.bool false)], args := [d1, d2, d3] }
  | _ => none }
def BreachStoryWrongFalsely : Prop := breachStoryRow.holds Try.pinned (OpenSpec.ofChange breachStoryWrong)

/-- 'consollaw27.BreachLater': WHATEVER THE INPUT: true; the input reads as it did. -/
def breachLaterSpec : ChangeSpec := { name := "breachLater", fn := fun _ => fun
  | [d1, d2, d3, d4] => { results := [.lit (.bool true)], args := [d1, d2, d3, d4] }
  | _ => none }
def breachLaterRow : OpenClaim := { program := "ytehjaghpfnncoaa", sum := "1843299dfed73c459a3e80cd9866bbfd1b9c3f1301e3b0b885a87e866946fb34", func := "consol/consollaw27.BreachLater", spec := "breachLater", apart := false }
def BreachLaterSaid : Prop := breachLaterRow.holds Try.pinned (OpenSpec.ofChange breachLaterSpec)

/-- ITS FALSE NEIGHBOUR: 'it returns false'. Refute it at one input. -/
def breachLaterWrong : ChangeSpec := { name := "breachLater", fn := fun _ => fun
  | [d1, d2, d3, d4] => { results := [.lit (.bool false)], args := [d1, d2, d3, d4] }
  | _ => none }
def BreachLaterWrongFalsely : Prop := breachLaterRow.holds Try.pinned (OpenSpec.ofChange breachLaterWrong)

/-- 'consollaw27.BreachEnds': WHATEVER THE INPUT: true; the input reads as it did. -/
def breachEndsSpec : ChangeSpec := { name := "breachEnds", fn := fun _ => fun
  | [d1, d2, d3, d4, d5] => { results := [.lit (.bool true)], args := [d1, d2, d3, d4, d5] }
  | _ => none }
def breachEndsRow : OpenClaim := { program := "ytehjaghpfnncoaa", sum := "1843299dfed73c459a3e80cd9866bbfd1b9c3f1301e3b0b885a87e866946fb34", func := "consol/consollaw27.BreachEnds", spec := "breachEnds", apart := false }
def BreachEndsSaid : Prop := breachEndsRow.holds Try.pinned (OpenSpec.ofChange breachEndsSpec)

/-- ITS FALSE NEIGHBOUR: 'it returns false'. Refute it at one input. -/
def breachEndsWrong : ChangeSpec := { name := "breachEnds", fn := fun _ => fun
  | [d1, d2, d3, d4, d5] => { results := [.lit (.bool false)], args := [d1, d2, d3, d4, d5] }
  | _ => none }
def BreachEndsWrongFalsely : Prop := breachEndsRow.holds Try.pinned (OpenSpec.ofChange breachEndsWrong)

/-- 'consollaw27.BreachWorst': WHATEVER THE INPUT: true; the input reads as it did. -/
def breachWorstSpec : ChangeSpec := { name := "breachWorst", fn := fun _ => fun
  | [d1, d2] => { results := [.lit (.bool true)], args := [d1, d2] }
  | _ => none }
def breachWorstRow : OpenClaim := { program := "ytehjaghpfnncoaa", sum := "1843299dfed73c459a3e80cd9866bbfd1b9c3f1301e3b0b885a87e866946fb34", func := "consol/consollaw27.BreachWorst", spec := "breachWorst", apart := false }
def BreachWorstSaid : Prop := breachWorstRow.holds Try.pinned (OpenSpec.ofChange breachWorstSpec)

/-- ITS FALSE NEIGHBOUR: 'it returns false'. Refute it at one input. -/
def breachWorstWrong : ChangeSpec := { name := "breachWorst", fn := fun _ => fun
  | [d1, d2] => { results := [.lit (.bool false)], args := [d1, d2] }
  | _ => none }
def BreachWorstWrongFalsely : Prop := breachWorstRow.holds Try.pinned (OpenSpec.ofChange breachWorstWrong)

/- THE SECOND FORM. 'bulk': how many values and letters a reading holds, each counted each time it is reached (what is shared counts as often as it is met; a slice's spare places count too). A statement '..UptoSaid' is the law's where the arguments, and the package variables that the reading takes, are together of bulk at most 1048576: NARROWER than '..Said'. Prove '..Said' where nothing that the law and all that it calls make is longer than what came in: it says more and counts as full. Else prove '..UptoSaid'. A law counts once. -/
mutual
def uptoBulk {H : Type} : DataW H → Nat
  | .lit (.string bytes) => bytes.length + 1
  | .lit _ => 1
  | .nil => 1
  | .ptr d => uptoBulk d + 1
  | .slice elems spare => uptoBulkAll elems + uptoBulkAll spare + 1
  | .agg parts => uptoBulkAll parts + 1
  | .iface _ d => uptoBulk d + 1
  | .map entries => uptoBulkEntries entries + 1
  | .held _ => 1
def uptoBulkAll {H : Type} : List (DataW H) → Nat
  | [] => 0
  | d :: r => uptoBulk d + uptoBulkAll r
def uptoBulkEntries {H : Type} : List (Lit × DataW H) → Nat
  | [] => 0
  | x :: r => uptoBulkEntry x + uptoBulkEntries r
def uptoBulkEntry {H : Type} : Lit × DataW H → Nat
  | (.string bytes, d) => bytes.length + uptoBulk d + 1
  | (_, d) => uptoBulk d + 1
 end
def uptoSmall : (H : Type) → List (DataW H) → Bool := fun _ ds => decide (uptoBulkAll ds ≤ 1048576)
def OpenSpec.upto (s : _root_.Go.ChangeSpec) : _root_.Go.OpenSpec := { _root_.Go.OpenSpec.ofChange s with cond := some uptoSmall }

/-- 'consollaw27.BreachTells', WHERE WHAT IT READS IS OF BULK AT MOST 1048576: true; the input reads as it did. -/
def breachTellsUptoRow : OpenClaim := { program := "ytehjaghpfnncoaa", sum := "1843299dfed73c459a3e80cd9866bbfd1b9c3f1301e3b0b885a87e866946fb34", func := "consol/consollaw27.BreachTells", spec := "breachTells", apart := false, narrowed := true }
def BreachTellsUptoSaid : Prop := breachTellsUptoRow.holds Try.pinned (OpenSpec.upto breachTellsSpec)

/-- 'consollaw27.BreachStory', WHERE WHAT IT READS IS OF BULK AT MOST 1048576: true; the input reads as it did. -/
def breachStoryUptoRow : OpenClaim := { program := "ytehjaghpfnncoaa", sum := "1843299dfed73c459a3e80cd9866bbfd1b9c3f1301e3b0b885a87e866946fb34", func := "consol/consollaw27.BreachStory", spec := "breachStory", apart := false, narrowed := true }
def BreachStoryUptoSaid : Prop := breachStoryUptoRow.holds Try.pinned (OpenSpec.upto breachStorySpec)

/-- 'consollaw27.BreachLater', WHERE WHAT IT READS IS OF BULK AT MOST 1048576: true; the input reads as it did. -/
def breachLaterUptoRow : OpenClaim := { program := "ytehjaghpfnncoaa", sum := "1843299dfed73c459a3e80cd9866bbfd1b9c3f1301e3b0b885a87e866946fb34", func := "consol/consollaw27.BreachLater", spec := "breachLater", apart := false, narrowed := true }
def BreachLaterUptoSaid : Prop := breachLaterUptoRow.holds Try.pinned (OpenSpec.upto breachLaterSpec)

/-- 'consollaw27.BreachEnds', WHERE WHAT IT READS IS OF BULK AT MOST 1048576: true; the input reads as it did. -/
def breachEndsUptoRow : OpenClaim := { program := "ytehjaghpfnncoaa", sum := "1843299dfed73c459a3e80cd9866bbfd1b9c3f1301e3b0b885a87e866946fb34", func := "consol/consollaw27.BreachEnds", spec := "breachEnds", apart := false, narrowed := true }
def BreachEndsUptoSaid : Prop := breachEndsUptoRow.holds Try.pinned (OpenSpec.upto breachEndsSpec)

/-- 'consollaw27.BreachWorst', WHERE WHAT IT READS IS OF BULK AT MOST 1048576: true; the input reads as it did. -/
def breachWorstUptoRow : OpenClaim := { program := "ytehjaghpfnncoaa", sum := "1843299dfed73c459a3e80cd9866bbfd1b9c3f1301e3b0b885a87e866946fb34", func := "consol/consollaw27.BreachWorst", spec := "breachWorst", apart := false, narrowed := true }
def BreachWorstUptoSaid : Prop := breachWorstUptoRow.holds Try.pinned (OpenSpec.upto breachWorstSpec)

end Rows
end Go.Proofs.Ytehjaghpfnncoaa
