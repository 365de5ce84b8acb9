/-
  DERIVED. GIVEN WITH THE SEED: THE CARDS: each row of YtplehnijfhgclaaGreatDoorRows.lean that lists a variable, with what it lists TIED to the program's text (the seventh form; the later family's looks); each row that meets fmt, with fmt's text TOLD by the authors' own Lean function (tested against real Go, not proved from fmt's source: count such statements apart). THE CARD IS WHAT COUNTS. Prove the row's statement (the work); the ties are given (YtplehnijfhgclaaGreatDoorTie.lean); close each card by the builder's one call (the guide's Derived/Test/ToyasCard.lean, 'card_holds'). Laid BY PROGRAM, IN A SANDBOX (cutbox-door.mjs). By AI agents, Wed Nov 11 2026. No macro, syntax, notation, axiom, sorry.
-/
import Derived.Test.YtplehnijfhgclaaGreatDoorRows
import GoSem.ClaimSeven
namespace Go.Proofs.YtplehnijfhgclaaGreatDoor
namespace Rows

/-- THE TIED CARD OF 'consollaw16.CircleForms'. -/
def circleFormsCard : Claim7 := { stood := { row := circleFormsRow, standIns := [], harness := (true, "241ca86f407cb15ec5216694255b265af67540d4bef19db8ae5c065cd00f0960"), looks := true }, kinds := [], alts := [], laidByText := true, laidKinds := [.data], laidTests := true, laidLooks := .later }
def CircleFormsCardSaid : Prop := Claim7.holds Tryz.pinned (.plain (OpenSpec.ofChange circleFormsSpec)) circleFormsCard

/-- THE TIED CARD OF 'consollaw16.CircleRounds'. -/
def circleRoundsCard : Claim7 := { stood := { row := circleRoundsRow, standIns := [], harness := (true, "241ca86f407cb15ec5216694255b265af67540d4bef19db8ae5c065cd00f0960"), looks := true }, kinds := [], alts := [], laidByText := true, laidKinds := [.data], laidTests := true, laidLooks := .later }
def CircleRoundsCardSaid : Prop := Claim7.holds Tryz.pinned (.plain (OpenSpec.ofChange circleRoundsSpec)) circleRoundsCard

/-- THE TIED CARD OF 'consollaw16.CircleTells'. -/
def circleTellsCard : Claim7 := { stood := { row := circleTellsRow, standIns := [], harness := (true, "241ca86f407cb15ec5216694255b265af67540d4bef19db8ae5c065cd00f0960"), looks := true }, kinds := [], alts := [], laidByText := true, laidKinds := [.data], laidTests := true, laidLooks := .later }
def CircleTellsCardSaid : Prop := Claim7.holds Tryz.pinned (.plain (OpenSpec.ofChange circleTellsSpec)) circleTellsCard

/-- THE TIED CARD OF 'consollaw16.CircleGreatest'. -/
def circleGreatestCard : Claim7 := { stood := { row := circleGreatestRow, standIns := [], harness := (true, "241ca86f407cb15ec5216694255b265af67540d4bef19db8ae5c065cd00f0960"), looks := true }, kinds := [], alts := [], laidByText := true, laidKinds := [.data], laidTests := true, laidLooks := .later }
def CircleGreatestCardSaid : Prop := Claim7.holds Tryz.pinned (.plain (OpenSpec.ofChange circleGreatestSpec)) circleGreatestCard

/-- THE TIED CARD OF 'consollaw16.CircleOne'. -/
def circleOneCard : Claim7 := { stood := { row := circleOneRow, standIns := [], harness := (true, "241ca86f407cb15ec5216694255b265af67540d4bef19db8ae5c065cd00f0960"), looks := true }, kinds := [], alts := [], laidByText := true, laidKinds := [.data], laidTests := true, laidLooks := .later }
def CircleOneCardSaid : Prop := Claim7.holds Tryz.pinned (.plain (OpenSpec.ofChange circleOneSpec)) circleOneCard

/-- THE TIED CARD OF 'consollaw16.CircleValue'. -/
def circleValueCard : Claim7 := { stood := { row := circleValueRow, standIns := [], harness := (true, "241ca86f407cb15ec5216694255b265af67540d4bef19db8ae5c065cd00f0960"), looks := true }, kinds := [], alts := [], laidByText := true, laidKinds := [.data], laidTests := true, laidLooks := .later }
def CircleValueCardSaid : Prop := Claim7.holds Tryz.pinned (.plain (OpenSpec.ofChange circleValueSpec)) circleValueCard

/-- THE SECOND FORM's CARD OF 'consollaw16.CircleForms'. -/
def circleFormsUptoCard : Claim7 := { stood := { row := circleFormsUptoRow, standIns := [], harness := (true, "241ca86f407cb15ec5216694255b265af67540d4bef19db8ae5c065cd00f0960"), looks := true }, kinds := [], alts := [], laidByText := true, laidKinds := [.data], laidTests := true, laidLooks := .later }
def CircleFormsUptoCardSaid : Prop := Claim7.holds Tryz.pinned (.plain (OpenSpec.upto circleFormsSpec)) circleFormsUptoCard

/-- THE SECOND FORM's CARD OF 'consollaw16.CircleRounds'. -/
def circleRoundsUptoCard : Claim7 := { stood := { row := circleRoundsUptoRow, standIns := [], harness := (true, "241ca86f407cb15ec5216694255b265af67540d4bef19db8ae5c065cd00f0960"), looks := true }, kinds := [], alts := [], laidByText := true, laidKinds := [.data], laidTests := true, laidLooks := .later }
def CircleRoundsUptoCardSaid : Prop := Claim7.holds Tryz.pinned (.plain (OpenSpec.upto circleRoundsSpec)) circleRoundsUptoCard

/-- THE SECOND FORM's CARD OF 'consollaw16.CircleTells'. -/
def circleTellsUptoCard : Claim7 := { stood := { row := circleTellsUptoRow, standIns := [], harness := (true, "241ca86f407cb15ec5216694255b265af67540d4bef19db8ae5c065cd00f0960"), looks := true }, kinds := [], alts := [], laidByText := true, laidKinds := [.data], laidTests := true, laidLooks := .later }
def CircleTellsUptoCardSaid : Prop := Claim7.holds Tryz.pinned (.plain (OpenSpec.upto circleTellsSpec)) circleTellsUptoCard

/-- THE SECOND FORM's CARD OF 'consollaw16.CircleGreatest'. -/
def circleGreatestUptoCard : Claim7 := { stood := { row := circleGreatestUptoRow, standIns := [], harness := (true, "241ca86f407cb15ec5216694255b265af67540d4bef19db8ae5c065cd00f0960"), looks := true }, kinds := [], alts := [], laidByText := true, laidKinds := [.data], laidTests := true, laidLooks := .later }
def CircleGreatestUptoCardSaid : Prop := Claim7.holds Tryz.pinned (.plain (OpenSpec.upto circleGreatestSpec)) circleGreatestUptoCard

/-- THE SECOND FORM's CARD OF 'consollaw16.CircleOne'. -/
def circleOneUptoCard : Claim7 := { stood := { row := circleOneUptoRow, standIns := [], harness := (true, "241ca86f407cb15ec5216694255b265af67540d4bef19db8ae5c065cd00f0960"), looks := true }, kinds := [], alts := [], laidByText := true, laidKinds := [.data], laidTests := true, laidLooks := .later }
def CircleOneUptoCardSaid : Prop := Claim7.holds Tryz.pinned (.plain (OpenSpec.upto circleOneSpec)) circleOneUptoCard

/-- THE SECOND FORM's CARD OF 'consollaw16.CircleValue'. -/
def circleValueUptoCard : Claim7 := { stood := { row := circleValueUptoRow, standIns := [], harness := (true, "241ca86f407cb15ec5216694255b265af67540d4bef19db8ae5c065cd00f0960"), looks := true }, kinds := [], alts := [], laidByText := true, laidKinds := [.data], laidTests := true, laidLooks := .later }
def CircleValueUptoCardSaid : Prop := Claim7.holds Tryz.pinned (.plain (OpenSpec.upto circleValueSpec)) circleValueUptoCard
end Rows
end Go.Proofs.YtplehnijfhgclaaGreatDoor
