/-
  DERIVED. GIVEN WITH THE SEED: THE CARDS: each row of YtmobeppmdakjmaaGreatDoorRows.lean that lists a variable, with what it lists TIED to the program's text (the seventh form; the later family's looks); each row that meets fmt, with fmt's text TOLD by the authors' own Lean function (tested against real Go, not proved from fmt's source: count such statements apart). THE CARD IS WHAT COUNTS. Prove the row's statement (the work); the ties are given (YtmobeppmdakjmaaGreatDoorTie.lean); close each card by the builder's one call (the guide's Derived/Test/ToyasCard.lean, 'card_holds'). Laid BY PROGRAM, IN A SANDBOX (cutbox-door.mjs). By AI agents, Wed Nov 11 2026. No macro, syntax, notation, axiom, sorry.
-/
import Derived.Test.YtmobeppmdakjmaaGreatDoorRows
import GoSem.ClaimSeven
namespace Go.Proofs.YtmobeppmdakjmaaGreatDoor
namespace Rows

/-- THE TIED CARD OF 'fascialaw12.FourForms'. -/
def fourFormsCard : Claim7 := { stood := { row := fourFormsRow, standIns := [], harness := (true, "964eb86436371e84d2446c02f248d826ed9453274bd69f72a639cf997cda3e0c"), looks := true }, kinds := [], alts := [], laidByText := true, laidKinds := [.data, .data, .data, .data, .sentinel, .sentinel, .pinned, .pinned], laidTests := true, laidLooks := .later }
def FourFormsCardSaid : Prop := Claim7.holds Tryz.pinned (.plain (OpenSpec.ofChange fourFormsSpec)) fourFormsCard

/-- THE SECOND FORM's CARD OF 'fascialaw12.FourForms'. -/
def fourFormsUptoCard : Claim7 := { stood := { row := fourFormsUptoRow, standIns := [], harness := (true, "964eb86436371e84d2446c02f248d826ed9453274bd69f72a639cf997cda3e0c"), looks := true }, kinds := [], alts := [], laidByText := true, laidKinds := [.data, .data, .data, .data, .sentinel, .sentinel, .pinned, .pinned], laidTests := true, laidLooks := .later }
def FourFormsUptoCardSaid : Prop := Claim7.holds Tryz.pinned (.plain (OpenSpec.upto fourFormsSpec)) fourFormsUptoCard
end Rows
end Go.Proofs.YtmobeppmdakjmaaGreatDoor
