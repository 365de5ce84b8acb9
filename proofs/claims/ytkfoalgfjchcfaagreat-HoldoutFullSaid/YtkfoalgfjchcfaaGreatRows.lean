/-
  No cell of these rows narrows 'for every input' (looked for: loops, veiled, ifaces, maps, wideKeys, modest, calm, conditions, laid).
  DERIVED. THE GIVEN ROWS OF THIS SEAT. 4 by the template 'for every input the law returns true; each argument reads behind the call as it read before'; 0 by the template 'total and deterministic' (their statements: YtkfoalgfjchcfaaGreatTotals.lean).
  GIVEN WITH THE SEED: the statements are not yours to turn. If you find one false, say at which input.
  Laid BY PROGRAM, IN A SANDBOX (cutbox-rows.mjs): the forced cells as the released guide's own fill.sh prints them over the translation caec4a4a42138c6a… (all of the seat's roots in one cut). By AI agents, Wed Nov 11 2026. No macro, syntax, notation, axiom, sorry.
-/
import Derived.Test.YtkfoalgfjchcfaaGreatChecked
import GoSem.Claim
import GoSem.ClaimJoined
import GoSem.ClaimMapViews
import Derived.JoinedTies
import Derived.KernelRfl
namespace Go.Proofs.YtkfoalgfjchcfaaGreat
/- THE CELL 'sum', in the pinned program and in every row, IS THE sha256 OF THE DUMP (.gsa) THAT YtkfoalgfjchcfaaGreatProg.lean LOADS. Nothing in Lean hashes anything: it is a label: what it is worth is what the hold of that sum in a sandbox is worth. -/
noncomputable def Tryz.pinned : Pinned := { name := "ytkfoalgfjchcfaagreat", sum := "caec4a4a42138c6abe2b98eb4d461e5d44baf4fbeee5ac5c07323f3d13e4dcae", checked := Tryz.checked }
namespace Rows
def none {H : Type} : Left H := { results := [], args := [] }

/-- 'consollaw37.HoldoutTells': WHATEVER THE INPUT: true; the input reads as it did. -/
def holdoutTellsSpec : ChangeSpec := { name := "holdoutTells", fn := fun _ => fun
  | [d1, d2] => { results := [.lit (.bool true)], args := [d1, d2] }
  | _ => none }
def holdoutTellsRow : OpenClaim := { program := "ytkfoalgfjchcfaagreat", sum := "caec4a4a42138c6abe2b98eb4d461e5d44baf4fbeee5ac5c07323f3d13e4dcae", func := "consol/consollaw37.HoldoutTells", spec := "holdoutTells", unfollowed := true, recurses := true, apart := false }
def HoldoutTellsSaid : Prop := holdoutTellsRow.holds Tryz.pinned (OpenSpec.ofChange holdoutTellsSpec)

/-- ITS FALSE NEIGHBOUR: 'it returns false'. Refute it at one input. -/
def holdoutTellsWrong : ChangeSpec := { name := "holdoutTells", fn := fun _ => fun
  | [d1, d2] => { results := [.lit (.bool false)], args := [d1, d2] }
  | _ => none }
def HoldoutTellsWrongFalsely : Prop := holdoutTellsRow.holds Tryz.pinned (OpenSpec.ofChange holdoutTellsWrong)

/-- 'consollaw37.HoldoutNone': WHATEVER THE INPUT: true; the input reads as it did. -/
def holdoutNoneSpec : ChangeSpec := { name := "holdoutNone", fn := fun _ => fun
  | [d1, d2] => { results := [.lit (.bool true)], args := [d1, d2] }
  | _ => none }
def holdoutNoneRow : OpenClaim := { program := "ytkfoalgfjchcfaagreat", sum := "caec4a4a42138c6abe2b98eb4d461e5d44baf4fbeee5ac5c07323f3d13e4dcae", func := "consol/consollaw37.HoldoutNone", spec := "holdoutNone", unfollowed := true, recurses := true, apart := false }
def HoldoutNoneSaid : Prop := holdoutNoneRow.holds Tryz.pinned (OpenSpec.ofChange holdoutNoneSpec)

/-- ITS FALSE NEIGHBOUR: 'it returns false'. Refute it at one input. -/
def holdoutNoneWrong : ChangeSpec := { name := "holdoutNone", fn := fun _ => fun
  | [d1, d2] => { results := [.lit (.bool false)], args := [d1, d2] }
  | _ => none }
def HoldoutNoneWrongFalsely : Prop := holdoutNoneRow.holds Tryz.pinned (OpenSpec.ofChange holdoutNoneWrong)

/-- 'consollaw37.HoldoutFull': WHATEVER THE INPUT: true; the input reads as it did. -/
def holdoutFullSpec : ChangeSpec := { name := "holdoutFull", fn := fun _ => fun
  | [d1, d2] => { results := [.lit (.bool true)], args := [d1, d2] }
  | _ => none }
def holdoutFullRow : OpenClaim := { program := "ytkfoalgfjchcfaagreat", sum := "caec4a4a42138c6abe2b98eb4d461e5d44baf4fbeee5ac5c07323f3d13e4dcae", func := "consol/consollaw37.HoldoutFull", spec := "holdoutFull", unfollowed := true, recurses := true, apart := false }
def HoldoutFullSaid : Prop := holdoutFullRow.holds Tryz.pinned (OpenSpec.ofChange holdoutFullSpec)

/-- ITS FALSE NEIGHBOUR: 'it returns false'. Refute it at one input. -/
def holdoutFullWrong : ChangeSpec := { name := "holdoutFull", fn := fun _ => fun
  | [d1, d2] => { results := [.lit (.bool false)], args := [d1, d2] }
  | _ => none }
def HoldoutFullWrongFalsely : Prop := holdoutFullRow.holds Tryz.pinned (OpenSpec.ofChange holdoutFullWrong)

/-- 'consollaw37.HoldoutPaid': WHATEVER THE INPUT: true; the input reads as it did. -/
def holdoutPaidSpec : ChangeSpec := { name := "holdoutPaid", fn := fun _ => fun
  | [d1, d2] => { results := [.lit (.bool true)], args := [d1, d2] }
  | _ => none }
def holdoutPaidRow : OpenClaim := { program := "ytkfoalgfjchcfaagreat", sum := "caec4a4a42138c6abe2b98eb4d461e5d44baf4fbeee5ac5c07323f3d13e4dcae", func := "consol/consollaw37.HoldoutPaid", spec := "holdoutPaid", unfollowed := true, recurses := true, apart := false }
def HoldoutPaidSaid : Prop := holdoutPaidRow.holds Tryz.pinned (OpenSpec.ofChange holdoutPaidSpec)

/-- ITS FALSE NEIGHBOUR: 'it returns false'. Refute it at one input. -/
def holdoutPaidWrong : ChangeSpec := { name := "holdoutPaid", fn := fun _ => fun
  | [d1, d2] => { results := [.lit (.bool false)], args := [d1, d2] }
  | _ => none }
def HoldoutPaidWrongFalsely : Prop := holdoutPaidRow.holds Tryz.pinned (OpenSpec.ofChange holdoutPaidWrong)

/- THE SECOND FORM. 'bulk': how many values and letters a reading holds, each counted each time it is reached (what is shared counts as often as it is met; a slice's spare places count too). A statement '..UptoSaid' is the law's where the arguments, and the package variables that the reading takes, are together of bulk at most 1048576: NARROWER than '..Said'. Prove '..Said' where nothing that the law and all that it calls make is longer than what came in: it says more and counts as full. Else prove '..UptoSaid'. A law counts once. -/
mutual
def uptoBulk {H : Type} : DataW H → Nat
  | .lit (.string bytes) => bytes.length + 1
  | .lit _ => 1
  | .nil => 1
  | .ptr d => uptoBulk d + 1
  | .slice elems spare => uptoBulkAll elems + uptoBulkAll spare + 1
  | .agg parts => uptoBulkAll parts + 1
  | .iface _ d => uptoBulk d + 1
  | .map entries => uptoBulkEntries entries + 1
  | .held _ => 1
def uptoBulkAll {H : Type} : List (DataW H) → Nat
  | [] => 0
  | d :: r => uptoBulk d + uptoBulkAll r
def uptoBulkEntries {H : Type} : List (Lit × DataW H) → Nat
  | [] => 0
  | x :: r => uptoBulkEntry x + uptoBulkEntries r
def uptoBulkEntry {H : Type} : Lit × DataW H → Nat
  | (.string bytes, d) => bytes.length + uptoBulk d + 1
  | (_, d) => uptoBulk d + 1
 end
def uptoSmall : (H : Type) → List (DataW H) → Bool := fun _ ds => decide (uptoBulkAll ds ≤ 1048576)
def OpenSpec.upto (s : _root_.Go.ChangeSpec) : _root_.Go.OpenSpec := { _root_.Go.OpenSpec.ofChange s with cond := some uptoSmall }

/-- 'consollaw37.HoldoutTells', WHERE WHAT IT READS IS OF BULK AT MOST 1048576: true; the input reads as it did. -/
def holdoutTellsUptoRow : OpenClaim := { program := "ytkfoalgfjchcfaagreat", sum := "caec4a4a42138c6abe2b98eb4d461e5d44baf4fbeee5ac5c07323f3d13e4dcae", func := "consol/consollaw37.HoldoutTells", spec := "holdoutTells", unfollowed := true, recurses := true, apart := false, narrowed := true }
def HoldoutTellsUptoSaid : Prop := holdoutTellsUptoRow.holds Tryz.pinned (OpenSpec.upto holdoutTellsSpec)

/-- 'consollaw37.HoldoutNone', WHERE WHAT IT READS IS OF BULK AT MOST 1048576: true; the input reads as it did. -/
def holdoutNoneUptoRow : OpenClaim := { program := "ytkfoalgfjchcfaagreat", sum := "caec4a4a42138c6abe2b98eb4d461e5d44baf4fbeee5ac5c07323f3d13e4dcae", func := "consol/consollaw37.HoldoutNone", spec := "holdoutNone", unfollowed := true, recurses := true, apart := false, narrowed := true }
def HoldoutNoneUptoSaid : Prop := holdoutNoneUptoRow.holds Tryz.pinned (OpenSpec.upto holdoutNoneSpec)

/-- 'consollaw37.HoldoutFull', WHERE WHAT IT READS IS OF BULK AT MOST 1048576: true; the input reads as it did. -/
def holdoutFullUptoRow : OpenClaim := { program := "ytkfoalgfjchcfaagreat", sum := "caec4a4a42138c6abe2b98eb4d461e5d44baf4fbeee5ac5c07323f3d13e4dcae", func := "consol/consollaw37.HoldoutFull", spec := "holdoutFull", unfollowed := true, recurses := true, apart := false, narrowed := true }
def HoldoutFullUptoSaid : Prop := holdoutFullUptoRow.holds Tryz.pinned (OpenSpec.upto holdoutFullSpec)

/-- 'consollaw37.HoldoutPaid', WHERE WHAT IT READS IS OF BULK AT MOST 1048576: true; the input reads as it did. -/
def holdoutPaidUptoRow : OpenClaim := { program := "ytkfoalgfjchcfaagreat", sum := "caec4a4a42138c6abe2b98eb4d461e5d44baf4fbeee5ac5c07323f3d13e4dcae", func := "consol/consollaw37.HoldoutPaid", spec := "holdoutPaid", unfollowed := true, recurses := true, apart := false, narrowed := true }
def HoldoutPaidUptoSaid : Prop := holdoutPaidUptoRow.holds Tryz.pinned (OpenSpec.upto holdoutPaidSpec)

end Rows
end Go.Proofs.YtkfoalgfjchcfaaGreat
