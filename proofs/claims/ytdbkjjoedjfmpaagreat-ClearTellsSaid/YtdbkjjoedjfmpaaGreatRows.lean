/-
  No cell of these rows narrows 'for every input' (looked for: loops, veiled, ifaces, maps, wideKeys, modest, calm, conditions, laid).
  DERIVED. THE GIVEN ROWS OF THIS SEAT. 5 by the template 'for every input the law returns true; each argument reads behind the call as it read before'; 0 by the template 'total and deterministic' (their statements: YtdbkjjoedjfmpaaGreatTotals.lean).
  GIVEN WITH THE SEED: the statements are not yours to turn. If you find one false, say at which input.
  Laid BY PROGRAM, IN A SANDBOX (cutbox-rows.mjs): the forced cells as the released guide's own fill.sh prints them over the translation 2e4f7d239984ed6b… (all of the seat's roots in one cut). By AI agents, Wed Nov 11 2026. No macro, syntax, notation, axiom, sorry.
-/
import Derived.Test.YtdbkjjoedjfmpaaGreatChecked
import GoSem.Claim
import GoSem.ClaimJoined
import GoSem.ClaimMapViews
import Derived.JoinedTies
import Derived.KernelRfl
namespace Go.Proofs.YtdbkjjoedjfmpaaGreat
/- THE CELL 'sum', in the pinned program and in every row, IS THE sha256 OF THE DUMP (.gsa) THAT YtdbkjjoedjfmpaaGreatProg.lean LOADS. Nothing in Lean hashes anything: it is a label: what it is worth is what the hold of that sum in a sandbox is worth. -/
noncomputable def Tryz.pinned : Pinned := { name := "ytdbkjjoedjfmpaagreat", sum := "2e4f7d239984ed6b48c1627e73c00f39cead5f7dcac42ff7d79a53cfe39630d7", checked := Tryz.checked }
namespace Rows
def none {H : Type} : Left H := { results := [], args := [] }

/-- 'consollaw20.ClearTells': WHATEVER THE INPUT: true; the input reads as it did. -/
def clearTellsSpec : ChangeSpec := { name := "clearTells", fn := fun _ => fun
  | [d1, d2, d3] => { results := [.lit (.bool true)], args := [d1, d2, d3] }
  | _ => none }
def clearTellsRow : OpenClaim := { program := "ytdbkjjoedjfmpaagreat", sum := "2e4f7d239984ed6b48c1627e73c00f39cead5f7dcac42ff7d79a53cfe39630d7", func := "consol/consollaw20.ClearTells", spec := "clearTells", unfollowed := true, recurses := true, apart := false }
def ClearTellsSaid : Prop := clearTellsRow.holds Tryz.pinned (OpenSpec.ofChange clearTellsSpec)

/-- ITS FALSE NEIGHBOUR: 'it returns false'. Refute it at one input. -/
def clearTellsWrong : ChangeSpec := { name := "clearTells", fn := fun _ => fun
  | [d1, d2, d3] => { results := [.lit (.bool false)], args := [d1, d2, d3] }
  | _ => none }
def ClearTellsWrongFalsely : Prop := clearTellsRow.holds Tryz.pinned (OpenSpec.ofChange clearTellsWrong)

/-- 'consollaw22.RescueTells': WHATEVER THE INPUT: true; the input reads as it did. -/
def rescueTellsSpec : ChangeSpec := { name := "rescueTells", fn := fun _ => fun
  | [d1, d2, d3] => { results := [.lit (.bool true)], args := [d1, d2, d3] }
  | _ => none }
def rescueTellsRow : OpenClaim := { program := "ytdbkjjoedjfmpaagreat", sum := "2e4f7d239984ed6b48c1627e73c00f39cead5f7dcac42ff7d79a53cfe39630d7", func := "consol/consollaw22.RescueTells", spec := "rescueTells", unfollowed := true, recurses := true, apart := false }
def RescueTellsSaid : Prop := rescueTellsRow.holds Tryz.pinned (OpenSpec.ofChange rescueTellsSpec)

/-- ITS FALSE NEIGHBOUR: 'it returns false'. Refute it at one input. -/
def rescueTellsWrong : ChangeSpec := { name := "rescueTells", fn := fun _ => fun
  | [d1, d2, d3] => { results := [.lit (.bool false)], args := [d1, d2, d3] }
  | _ => none }
def RescueTellsWrongFalsely : Prop := rescueTellsRow.holds Tryz.pinned (OpenSpec.ofChange rescueTellsWrong)

/-- 'consollaw22.RescueOthers': WHATEVER THE INPUT: true; the input reads as it did. -/
def rescueOthersSpec : ChangeSpec := { name := "rescueOthers", fn := fun _ => fun
  | [d1, d2, d3] => { results := [.lit (.bool true)], args := [d1, d2, d3] }
  | _ => none }
def rescueOthersRow : OpenClaim := { program := "ytdbkjjoedjfmpaagreat", sum := "2e4f7d239984ed6b48c1627e73c00f39cead5f7dcac42ff7d79a53cfe39630d7", func := "consol/consollaw22.RescueOthers", spec := "rescueOthers", unfollowed := true, recurses := true, apart := false }
def RescueOthersSaid : Prop := rescueOthersRow.holds Tryz.pinned (OpenSpec.ofChange rescueOthersSpec)

/-- ITS FALSE NEIGHBOUR: 'it returns false'. Refute it at one input. -/
def rescueOthersWrong : ChangeSpec := { name := "rescueOthers", fn := fun _ => fun
  | [d1, d2, d3] => { results := [.lit (.bool false)], args := [d1, d2, d3] }
  | _ => none }
def RescueOthersWrongFalsely : Prop := rescueOthersRow.holds Tryz.pinned (OpenSpec.ofChange rescueOthersWrong)

/-- 'consollaw20.ClearMoney': WHATEVER THE INPUT: true; the input reads as it did. -/
def clearMoneySpec : ChangeSpec := { name := "clearMoney", fn := fun _ => fun
  | [d1, d2] => { results := [.lit (.bool true)], args := [d1, d2] }
  | _ => none }
def clearMoneyRow : OpenClaim := { program := "ytdbkjjoedjfmpaagreat", sum := "2e4f7d239984ed6b48c1627e73c00f39cead5f7dcac42ff7d79a53cfe39630d7", func := "consol/consollaw20.ClearMoney", spec := "clearMoney", unfollowed := true, recurses := true, apart := false }
def ClearMoneySaid : Prop := clearMoneyRow.holds Tryz.pinned (OpenSpec.ofChange clearMoneySpec)

/-- ITS FALSE NEIGHBOUR: 'it returns false'. Refute it at one input. -/
def clearMoneyWrong : ChangeSpec := { name := "clearMoney", fn := fun _ => fun
  | [d1, d2] => { results := [.lit (.bool false)], args := [d1, d2] }
  | _ => none }
def ClearMoneyWrongFalsely : Prop := clearMoneyRow.holds Tryz.pinned (OpenSpec.ofChange clearMoneyWrong)

/-- 'consollaw22.RescueLeast': WHATEVER THE INPUT: true; the input reads as it did. -/
def rescueLeastSpec : ChangeSpec := { name := "rescueLeast", fn := fun _ => fun
  | [d1, d2, d3, d4] => { results := [.lit (.bool true)], args := [d1, d2, d3, d4] }
  | _ => none }
def rescueLeastRow : OpenClaim := { program := "ytdbkjjoedjfmpaagreat", sum := "2e4f7d239984ed6b48c1627e73c00f39cead5f7dcac42ff7d79a53cfe39630d7", func := "consol/consollaw22.RescueLeast", spec := "rescueLeast", unfollowed := true, recurses := true, apart := false }
def RescueLeastSaid : Prop := rescueLeastRow.holds Tryz.pinned (OpenSpec.ofChange rescueLeastSpec)

/-- ITS FALSE NEIGHBOUR: 'it returns false'. Refute it at one input. -/
def rescueLeastWrong : ChangeSpec := { name := "rescueLeast", fn := fun _ => fun
  | [d1, d2, d3, d4] => { results := [.lit (.bool false)], args := [d1, d2, d3, d4] }
  | _ => none }
def RescueLeastWrongFalsely : Prop := rescueLeastRow.holds Tryz.pinned (OpenSpec.ofChange rescueLeastWrong)

/- THE SECOND FORM. 'bulk': how many values and letters a reading holds, each counted each time it is reached (what is shared counts as often as it is met; a slice's spare places count too). A statement '..UptoSaid' is the law's where the arguments, and the package variables that the reading takes, are together of bulk at most 1048576: NARROWER than '..Said'. Prove '..Said' where nothing that the law and all that it calls make is longer than what came in: it says more and counts as full. Else prove '..UptoSaid'. A law counts once. -/
mutual
def uptoBulk {H : Type} : DataW H → Nat
  | .lit (.string bytes) => bytes.length + 1
  | .lit _ => 1
  | .nil => 1
  | .ptr d => uptoBulk d + 1
  | .slice elems spare => uptoBulkAll elems + uptoBulkAll spare + 1
  | .agg parts => uptoBulkAll parts + 1
  | .iface _ d => uptoBulk d + 1
  | .map entries => uptoBulkEntries entries + 1
  | .held _ => 1
def uptoBulkAll {H : Type} : List (DataW H) → Nat
  | [] => 0
  | d :: r => uptoBulk d + uptoBulkAll r
def uptoBulkEntries {H : Type} : List (Lit × DataW H) → Nat
  | [] => 0
  | x :: r => uptoBulkEntry x + uptoBulkEntries r
def uptoBulkEntry {H : Type} : Lit × DataW H → Nat
  | (.string bytes, d) => bytes.length + uptoBulk d + 1
  | (_, d) => uptoBulk d + 1
 end
def uptoSmall : (H : Type) → List (DataW H) → Bool := fun _ ds => decide (uptoBulkAll ds ≤ 1048576)
def OpenSpec.upto (s : _root_.Go.ChangeSpec) : _root_.Go.OpenSpec := { _root_.Go.OpenSpec.ofChange s with cond := some uptoSmall }

/-- 'consollaw20.ClearTells', WHERE WHAT IT READS IS OF BULK AT MOST 1048576: true; the input reads as it did. -/
def clearTellsUptoRow : OpenClaim := { program := "ytdbkjjoedjfmpaagreat", sum := "2e4f7d239984ed6b48c1627e73c00f39cead5f7dcac42ff7d79a53cfe39630d7", func := "consol/consollaw20.ClearTells", spec := "clearTells", unfollowed := true, recurses := true, apart := false, narrowed := true }
def ClearTellsUptoSaid : Prop := clearTellsUptoRow.holds Tryz.pinned (OpenSpec.upto clearTellsSpec)

/-- 'consollaw22.RescueTells', WHERE WHAT IT READS IS OF BULK AT MOST 1048576: true; the input reads as it did. -/
def rescueTellsUptoRow : OpenClaim := { program := "ytdbkjjoedjfmpaagreat", sum := "2e4f7d239984ed6b48c1627e73c00f39cead5f7dcac42ff7d79a53cfe39630d7", func := "consol/consollaw22.RescueTells", spec := "rescueTells", unfollowed := true, recurses := true, apart := false, narrowed := true }
def RescueTellsUptoSaid : Prop := rescueTellsUptoRow.holds Tryz.pinned (OpenSpec.upto rescueTellsSpec)

/-- 'consollaw22.RescueOthers', WHERE WHAT IT READS IS OF BULK AT MOST 1048576: true; the input reads as it did. -/
def rescueOthersUptoRow : OpenClaim := { program := "ytdbkjjoedjfmpaagreat", sum := "2e4f7d239984ed6b48c1627e73c00f39cead5f7dcac42ff7d79a53cfe39630d7", func := "consol/consollaw22.RescueOthers", spec := "rescueOthers", unfollowed := true, recurses := true, apart := false, narrowed := true }
def RescueOthersUptoSaid : Prop := rescueOthersUptoRow.holds Tryz.pinned (OpenSpec.upto rescueOthersSpec)

/-- 'consollaw20.ClearMoney', WHERE WHAT IT READS IS OF BULK AT MOST 1048576: true; the input reads as it did. -/
def clearMoneyUptoRow : OpenClaim := { program := "ytdbkjjoedjfmpaagreat", sum := "2e4f7d239984ed6b48c1627e73c00f39cead5f7dcac42ff7d79a53cfe39630d7", func := "consol/consollaw20.ClearMoney", spec := "clearMoney", unfollowed := true, recurses := true, apart := false, narrowed := true }
def ClearMoneyUptoSaid : Prop := clearMoneyUptoRow.holds Tryz.pinned (OpenSpec.upto clearMoneySpec)

/-- 'consollaw22.RescueLeast', WHERE WHAT IT READS IS OF BULK AT MOST 1048576: true; the input reads as it did. -/
def rescueLeastUptoRow : OpenClaim := { program := "ytdbkjjoedjfmpaagreat", sum := "2e4f7d239984ed6b48c1627e73c00f39cead5f7dcac42ff7d79a53cfe39630d7", func := "consol/consollaw22.RescueLeast", spec := "rescueLeast", unfollowed := true, recurses := true, apart := false, narrowed := true }
def RescueLeastUptoSaid : Prop := rescueLeastUptoRow.holds Tryz.pinned (OpenSpec.upto rescueLeastSpec)

end Rows
end Go.Proofs.YtdbkjjoedjfmpaaGreat
