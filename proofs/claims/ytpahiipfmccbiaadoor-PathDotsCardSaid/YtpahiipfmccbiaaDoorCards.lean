/-
  DERIVED. GIVEN WITH THE SEED: THE CARDS: each row of YtpahiipfmccbiaaDoorRows.lean that lists a variable, with what it lists TIED to the program's text (the seventh form; the later family's looks); each row that meets fmt, with fmt's text TOLD by the authors' own Lean function (tested against real Go, not proved from fmt's source: count such statements apart). THE CARD IS WHAT COUNTS. Prove the row's statement (the work); the ties are given (YtpahiipfmccbiaaDoorTie.lean); close each card by the builder's one call (the guide's Derived/Test/ToyasCard.lean, 'card_holds'). Laid BY PROGRAM, IN A SANDBOX (cutbox-door.mjs). By AI agents, Wed Nov 11 2026. No macro, syntax, notation, axiom, sorry.
-/
import Derived.Test.YtpahiipfmccbiaaDoorRows
import GoSem.ClaimSeven
namespace Go.Proofs.YtpahiipfmccbiaaDoor
namespace Rows

/-- THE TIED CARD OF 'fascialaw16.PathParts'. -/
def pathPartsCard : Claim7 := { stood := { row := pathPartsRow, standIns := [], harness := (true, "aaa4daae5455bc85d1ffbe59f6fbde0cc8b64792e7f192a9c823119dfdc6c7b2"), looks := false }, kinds := [], alts := [], laidByText := true, laidKinds := [.data, .pinned], laidTests := true, laidLooks := .later }
def PathPartsCardSaid : Prop := Claim7.holds Tryd.pinned (.plain (OpenSpec.ofChange pathPartsSpec)) pathPartsCard

/-- THE TIED CARD OF 'fascialaw16.PathShort'. -/
def pathShortCard : Claim7 := { stood := { row := pathShortRow, standIns := [], harness := (true, "aaa4daae5455bc85d1ffbe59f6fbde0cc8b64792e7f192a9c823119dfdc6c7b2"), looks := false }, kinds := [], alts := [], laidByText := true, laidKinds := [.data, .pinned], laidTests := true, laidLooks := .later }
def PathShortCardSaid : Prop := Claim7.holds Tryd.pinned (.plain (OpenSpec.ofChange pathShortSpec)) pathShortCard

/-- THE TIED CARD OF 'fascialaw16.PathTells'. -/
def pathTellsCard : Claim7 := { stood := { row := pathTellsRow, standIns := [], harness := (true, "aaa4daae5455bc85d1ffbe59f6fbde0cc8b64792e7f192a9c823119dfdc6c7b2"), looks := false }, kinds := [], alts := [], laidByText := true, laidKinds := [.data, .pinned], laidTests := true, laidLooks := .later }
def PathTellsCardSaid : Prop := Claim7.holds Tryd.pinned (.plain (OpenSpec.ofChange pathTellsSpec)) pathTellsCard

/-- THE TIED CARD OF 'fascialaw16.PathAgain'. -/
def pathAgainCard : Claim7 := { stood := { row := pathAgainRow, standIns := [], harness := (true, "aaa4daae5455bc85d1ffbe59f6fbde0cc8b64792e7f192a9c823119dfdc6c7b2"), looks := false }, kinds := [], alts := [], laidByText := true, laidKinds := [.data, .pinned], laidTests := true, laidLooks := .later }
def PathAgainCardSaid : Prop := Claim7.holds Tryd.pinned (.plain (OpenSpec.ofChange pathAgainSpec)) pathAgainCard

/-- THE TIED CARD OF 'fascialaw16.PathDots'. -/
def pathDotsCard : Claim7 := { stood := { row := pathDotsRow, standIns := [], harness := (true, "aaa4daae5455bc85d1ffbe59f6fbde0cc8b64792e7f192a9c823119dfdc6c7b2"), looks := false }, kinds := [], alts := [], laidByText := true, laidKinds := [.data, .pinned, .pinned], laidTests := true, laidLooks := .later }
def PathDotsCardSaid : Prop := Claim7.holds Tryd.pinned (.plain (OpenSpec.ofChange pathDotsSpec)) pathDotsCard

/-- THE SECOND FORM's CARD OF 'fascialaw16.PathParts'. -/
def pathPartsUptoCard : Claim7 := { stood := { row := pathPartsUptoRow, standIns := [], harness := (true, "aaa4daae5455bc85d1ffbe59f6fbde0cc8b64792e7f192a9c823119dfdc6c7b2"), looks := false }, kinds := [], alts := [], laidByText := true, laidKinds := [.data, .pinned], laidTests := true, laidLooks := .later }
def PathPartsUptoCardSaid : Prop := Claim7.holds Tryd.pinned (.plain (OpenSpec.upto pathPartsSpec)) pathPartsUptoCard

/-- THE SECOND FORM's CARD OF 'fascialaw16.PathShort'. -/
def pathShortUptoCard : Claim7 := { stood := { row := pathShortUptoRow, standIns := [], harness := (true, "aaa4daae5455bc85d1ffbe59f6fbde0cc8b64792e7f192a9c823119dfdc6c7b2"), looks := false }, kinds := [], alts := [], laidByText := true, laidKinds := [.data, .pinned], laidTests := true, laidLooks := .later }
def PathShortUptoCardSaid : Prop := Claim7.holds Tryd.pinned (.plain (OpenSpec.upto pathShortSpec)) pathShortUptoCard

/-- THE SECOND FORM's CARD OF 'fascialaw16.PathTells'. -/
def pathTellsUptoCard : Claim7 := { stood := { row := pathTellsUptoRow, standIns := [], harness := (true, "aaa4daae5455bc85d1ffbe59f6fbde0cc8b64792e7f192a9c823119dfdc6c7b2"), looks := false }, kinds := [], alts := [], laidByText := true, laidKinds := [.data, .pinned], laidTests := true, laidLooks := .later }
def PathTellsUptoCardSaid : Prop := Claim7.holds Tryd.pinned (.plain (OpenSpec.upto pathTellsSpec)) pathTellsUptoCard

/-- THE SECOND FORM's CARD OF 'fascialaw16.PathAgain'. -/
def pathAgainUptoCard : Claim7 := { stood := { row := pathAgainUptoRow, standIns := [], harness := (true, "aaa4daae5455bc85d1ffbe59f6fbde0cc8b64792e7f192a9c823119dfdc6c7b2"), looks := false }, kinds := [], alts := [], laidByText := true, laidKinds := [.data, .pinned], laidTests := true, laidLooks := .later }
def PathAgainUptoCardSaid : Prop := Claim7.holds Tryd.pinned (.plain (OpenSpec.upto pathAgainSpec)) pathAgainUptoCard

/-- THE SECOND FORM's CARD OF 'fascialaw16.PathDots'. -/
def pathDotsUptoCard : Claim7 := { stood := { row := pathDotsUptoRow, standIns := [], harness := (true, "aaa4daae5455bc85d1ffbe59f6fbde0cc8b64792e7f192a9c823119dfdc6c7b2"), looks := false }, kinds := [], alts := [], laidByText := true, laidKinds := [.data, .pinned, .pinned], laidTests := true, laidLooks := .later }
def PathDotsUptoCardSaid : Prop := Claim7.holds Tryd.pinned (.plain (OpenSpec.upto pathDotsSpec)) pathDotsUptoCard
end Rows
end Go.Proofs.YtpahiipfmccbiaaDoor
