/-
  DERIVED. GIVEN WITH THE SEED: THE CARDS: each row of YtmobeppmdakjmaaDoorRows.lean that lists a variable, with what it lists TIED to the program's text (the seventh form; the later family's looks); each row that meets fmt, with fmt's text TOLD by the authors' own Lean function (tested against real Go, not proved from fmt's source: count such statements apart). THE CARD IS WHAT COUNTS. Prove the row's statement (the work); the ties are given (YtmobeppmdakjmaaDoorTie.lean); close each card by the builder's one call (the guide's Derived/Test/ToyasCard.lean, 'card_holds'). Laid BY PROGRAM, IN A SANDBOX (cutbox-door.mjs). By AI agents, Wed Nov 11 2026. No macro, syntax, notation, axiom, sorry.
-/
import Derived.Test.YtmobeppmdakjmaaDoorRows
import GoSem.ClaimSeven
namespace Go.Proofs.YtmobeppmdakjmaaDoor
namespace Rows

/-- THE TIED CARD OF 'fascialaw12.FourTells'. -/
def fourTellsCard : Claim7 := { stood := { row := fourTellsRow, standIns := [], harness := (true, "94314ff7db34ea72ada95a55ef2862267971418d1c3f34f929ca266afb93c152"), looks := true }, kinds := [], alts := [], laidByText := true, laidKinds := [.data, .data, .data, .data, .sentinel, .sentinel, .pinned], laidTests := true, laidLooks := .later }
def FourTellsCardSaid : Prop := Claim7.holds Tryd.pinned (.plain (OpenSpec.ofChange fourTellsSpec)) fourTellsCard

/-- THE TIED CARD OF 'fascialaw12.FourBack'. -/
def fourBackCard : Claim7 := { stood := { row := fourBackRow, standIns := [], harness := (true, "94314ff7db34ea72ada95a55ef2862267971418d1c3f34f929ca266afb93c152"), looks := true }, kinds := [], alts := [], laidByText := true, laidKinds := [.data, .data, .data, .data, .sentinel, .sentinel, .pinned], laidTests := true, laidLooks := .later }
def FourBackCardSaid : Prop := Claim7.holds Tryd.pinned (.plain (OpenSpec.ofChange fourBackSpec)) fourBackCard

/-- THE TIED CARD OF 'fascialaw12.FourLimits'. -/
def fourLimitsCard : Claim7 := { stood := { row := fourLimitsRow, standIns := [], harness := (true, "94314ff7db34ea72ada95a55ef2862267971418d1c3f34f929ca266afb93c152"), looks := true }, kinds := [], alts := [], laidByText := true, laidKinds := [.data, .data, .data, .data, .sentinel, .sentinel, .pinned], laidTests := true, laidLooks := .later }
def FourLimitsCardSaid : Prop := Claim7.holds Tryd.pinned (.plain (OpenSpec.ofChange fourLimitsSpec)) fourLimitsCard

/-- THE TIED CARD OF 'fascialaw13.SixTells'. -/
def sixTellsCard : Claim7 := { stood := { row := sixTellsRow, standIns := [], harness := (true, "94314ff7db34ea72ada95a55ef2862267971418d1c3f34f929ca266afb93c152"), looks := true }, kinds := [], alts := [], laidByText := true, laidKinds := [.data, .data, .data, .data, .sentinel, .sentinel, .pinned], laidTests := true, laidLooks := .later }
def SixTellsCardSaid : Prop := Claim7.holds Tryd.pinned (.plain (OpenSpec.ofChange sixTellsSpec)) sixTellsCard

/-- THE TIED CARD OF 'fascialaw12.FourEnds'. -/
def fourEndsCard : Claim7 := { stood := { row := fourEndsRow, standIns := [], harness := (true, "94314ff7db34ea72ada95a55ef2862267971418d1c3f34f929ca266afb93c152"), looks := true }, kinds := [], alts := [], laidByText := true, laidKinds := [.data, .data, .data, .data, .sentinel, .sentinel, .pinned], laidTests := true, laidLooks := .later }
def FourEndsCardSaid : Prop := Claim7.holds Tryd.pinned (.plain (OpenSpec.ofChange fourEndsSpec)) fourEndsCard

/-- THE TIED CARD OF 'fascialaw13.SixForms'. -/
def sixFormsCard : Claim7 := { stood := { row := sixFormsRow, standIns := [], harness := (true, "94314ff7db34ea72ada95a55ef2862267971418d1c3f34f929ca266afb93c152"), looks := true }, kinds := [], alts := [], laidByText := true, laidKinds := [.data, .data, .data, .data, .sentinel, .sentinel, .pinned], laidTests := true, laidLooks := .later }
def SixFormsCardSaid : Prop := Claim7.holds Tryd.pinned (.plain (OpenSpec.ofChange sixFormsSpec)) sixFormsCard

/-- THE TIED CARD OF 'fascialaw13.SixShort'. -/
def sixShortCard : Claim7 := { stood := { row := sixShortRow, standIns := [], harness := (true, "94314ff7db34ea72ada95a55ef2862267971418d1c3f34f929ca266afb93c152"), looks := true }, kinds := [], alts := [], laidByText := true, laidKinds := [.data, .data, .data, .data, .sentinel, .sentinel, .pinned], laidTests := true, laidLooks := .later }
def SixShortCardSaid : Prop := Claim7.holds Tryd.pinned (.plain (OpenSpec.ofChange sixShortSpec)) sixShortCard

/-- THE TIED CARD OF 'fascialaw13.SixWrong'. -/
def sixWrongCard : Claim7 := { stood := { row := sixWrongRow, standIns := [], harness := (true, "94314ff7db34ea72ada95a55ef2862267971418d1c3f34f929ca266afb93c152"), looks := true }, kinds := [], alts := [], laidByText := true, laidKinds := [.data, .data, .data, .data, .sentinel, .sentinel, .pinned], laidTests := true, laidLooks := .later }
def SixWrongCardSaid : Prop := Claim7.holds Tryd.pinned (.plain (OpenSpec.ofChange sixWrongSpec)) sixWrongCard

/-- THE TIED CARD OF 'fascialaw13.SixBack'. -/
def sixBackCard : Claim7 := { stood := { row := sixBackRow, standIns := [], harness := (true, "94314ff7db34ea72ada95a55ef2862267971418d1c3f34f929ca266afb93c152"), looks := true }, kinds := [], alts := [], laidByText := true, laidKinds := [.data, .data, .data, .data, .sentinel, .sentinel, .pinned, .pinned], laidTests := true, laidLooks := .later }
def SixBackCardSaid : Prop := Claim7.holds Tryd.pinned (.plain (OpenSpec.ofChange sixBackSpec)) sixBackCard

/-- THE SECOND FORM's CARD OF 'fascialaw12.FourTells'. -/
def fourTellsUptoCard : Claim7 := { stood := { row := fourTellsUptoRow, standIns := [], harness := (true, "94314ff7db34ea72ada95a55ef2862267971418d1c3f34f929ca266afb93c152"), looks := true }, kinds := [], alts := [], laidByText := true, laidKinds := [.data, .data, .data, .data, .sentinel, .sentinel, .pinned], laidTests := true, laidLooks := .later }
def FourTellsUptoCardSaid : Prop := Claim7.holds Tryd.pinned (.plain (OpenSpec.upto fourTellsSpec)) fourTellsUptoCard

/-- THE SECOND FORM's CARD OF 'fascialaw12.FourBack'. -/
def fourBackUptoCard : Claim7 := { stood := { row := fourBackUptoRow, standIns := [], harness := (true, "94314ff7db34ea72ada95a55ef2862267971418d1c3f34f929ca266afb93c152"), looks := true }, kinds := [], alts := [], laidByText := true, laidKinds := [.data, .data, .data, .data, .sentinel, .sentinel, .pinned], laidTests := true, laidLooks := .later }
def FourBackUptoCardSaid : Prop := Claim7.holds Tryd.pinned (.plain (OpenSpec.upto fourBackSpec)) fourBackUptoCard

/-- THE SECOND FORM's CARD OF 'fascialaw12.FourLimits'. -/
def fourLimitsUptoCard : Claim7 := { stood := { row := fourLimitsUptoRow, standIns := [], harness := (true, "94314ff7db34ea72ada95a55ef2862267971418d1c3f34f929ca266afb93c152"), looks := true }, kinds := [], alts := [], laidByText := true, laidKinds := [.data, .data, .data, .data, .sentinel, .sentinel, .pinned], laidTests := true, laidLooks := .later }
def FourLimitsUptoCardSaid : Prop := Claim7.holds Tryd.pinned (.plain (OpenSpec.upto fourLimitsSpec)) fourLimitsUptoCard

/-- THE SECOND FORM's CARD OF 'fascialaw13.SixTells'. -/
def sixTellsUptoCard : Claim7 := { stood := { row := sixTellsUptoRow, standIns := [], harness := (true, "94314ff7db34ea72ada95a55ef2862267971418d1c3f34f929ca266afb93c152"), looks := true }, kinds := [], alts := [], laidByText := true, laidKinds := [.data, .data, .data, .data, .sentinel, .sentinel, .pinned], laidTests := true, laidLooks := .later }
def SixTellsUptoCardSaid : Prop := Claim7.holds Tryd.pinned (.plain (OpenSpec.upto sixTellsSpec)) sixTellsUptoCard

/-- THE SECOND FORM's CARD OF 'fascialaw12.FourEnds'. -/
def fourEndsUptoCard : Claim7 := { stood := { row := fourEndsUptoRow, standIns := [], harness := (true, "94314ff7db34ea72ada95a55ef2862267971418d1c3f34f929ca266afb93c152"), looks := true }, kinds := [], alts := [], laidByText := true, laidKinds := [.data, .data, .data, .data, .sentinel, .sentinel, .pinned], laidTests := true, laidLooks := .later }
def FourEndsUptoCardSaid : Prop := Claim7.holds Tryd.pinned (.plain (OpenSpec.upto fourEndsSpec)) fourEndsUptoCard

/-- THE SECOND FORM's CARD OF 'fascialaw13.SixForms'. -/
def sixFormsUptoCard : Claim7 := { stood := { row := sixFormsUptoRow, standIns := [], harness := (true, "94314ff7db34ea72ada95a55ef2862267971418d1c3f34f929ca266afb93c152"), looks := true }, kinds := [], alts := [], laidByText := true, laidKinds := [.data, .data, .data, .data, .sentinel, .sentinel, .pinned], laidTests := true, laidLooks := .later }
def SixFormsUptoCardSaid : Prop := Claim7.holds Tryd.pinned (.plain (OpenSpec.upto sixFormsSpec)) sixFormsUptoCard

/-- THE SECOND FORM's CARD OF 'fascialaw13.SixShort'. -/
def sixShortUptoCard : Claim7 := { stood := { row := sixShortUptoRow, standIns := [], harness := (true, "94314ff7db34ea72ada95a55ef2862267971418d1c3f34f929ca266afb93c152"), looks := true }, kinds := [], alts := [], laidByText := true, laidKinds := [.data, .data, .data, .data, .sentinel, .sentinel, .pinned], laidTests := true, laidLooks := .later }
def SixShortUptoCardSaid : Prop := Claim7.holds Tryd.pinned (.plain (OpenSpec.upto sixShortSpec)) sixShortUptoCard

/-- THE SECOND FORM's CARD OF 'fascialaw13.SixWrong'. -/
def sixWrongUptoCard : Claim7 := { stood := { row := sixWrongUptoRow, standIns := [], harness := (true, "94314ff7db34ea72ada95a55ef2862267971418d1c3f34f929ca266afb93c152"), looks := true }, kinds := [], alts := [], laidByText := true, laidKinds := [.data, .data, .data, .data, .sentinel, .sentinel, .pinned], laidTests := true, laidLooks := .later }
def SixWrongUptoCardSaid : Prop := Claim7.holds Tryd.pinned (.plain (OpenSpec.upto sixWrongSpec)) sixWrongUptoCard

/-- THE SECOND FORM's CARD OF 'fascialaw13.SixBack'. -/
def sixBackUptoCard : Claim7 := { stood := { row := sixBackUptoRow, standIns := [], harness := (true, "94314ff7db34ea72ada95a55ef2862267971418d1c3f34f929ca266afb93c152"), looks := true }, kinds := [], alts := [], laidByText := true, laidKinds := [.data, .data, .data, .data, .sentinel, .sentinel, .pinned, .pinned], laidTests := true, laidLooks := .later }
def SixBackUptoCardSaid : Prop := Claim7.holds Tryd.pinned (.plain (OpenSpec.upto sixBackSpec)) sixBackUptoCard
end Rows
end Go.Proofs.YtmobeppmdakjmaaDoor
