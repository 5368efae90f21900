/-
  DERIVED. GIVEN WITH THE SEED: THE CARDS: each row of YtllbfabgglneeaaGreatDoorRows.lean that lists a variable, with what it lists TIED to the program's text (the seventh form; the later family's looks); each row that meets fmt, with fmt's text TOLD by the authors' own Lean function (tested against real Go, not proved from fmt's source: count such statements apart). THE CARD IS WHAT COUNTS. Prove the row's statement (the work); the ties are given (YtllbfabgglneeaaGreatDoorTie.lean); close each card by the builder's one call (the guide's Derived/Test/ToyasCard.lean, 'card_holds'). Laid BY PROGRAM, IN A SANDBOX (cutbox-door.mjs). By AI agents, Wed Nov 11 2026. No macro, syntax, notation, axiom, sorry.
-/
import Derived.Test.YtllbfabgglneeaaGreatDoorRows
import GoSem.ClaimSeven
namespace Go.Proofs.YtllbfabgglneeaaGreatDoor
namespace Rows

/-- THE TIED CARD OF 'refectorylaw09.SchemaAll'. -/
def schemaAllCard : Claim7 := { stood := { row := schemaAllRow, standIns := [], harness := (true, "96ac4ed1abce56927af005d9f006e552418beb31815a0511857d7affd94f2447"), looks := true }, kinds := [], alts := [], laidByText := true, laidKinds := [.data, .pinned], laidTests := true, laidLooks := .later }
def SchemaAllCardSaid : Prop := Claim7.holds Tryz.pinned (.plain (OpenSpec.ofChange schemaAllSpec)) schemaAllCard

/-- THE TIED CARD OF 'refectorylaw10.SoundTexts'. -/
def soundTextsCard : Claim7 := { stood := { row := soundTextsRow, standIns := [], harness := (true, "96ac4ed1abce56927af005d9f006e552418beb31815a0511857d7affd94f2447"), looks := true }, kinds := [], alts := [], laidByText := true, laidKinds := [.data, .data, .data, .data, .sentinel, .sentinel, .pinned], laidTests := true, laidLooks := .later }
def SoundTextsCardSaid : Prop := Claim7.holds Tryz.pinned (.plain (OpenSpec.ofChange soundTextsSpec)) soundTextsCard

/-- THE TIED CARD OF 'refectorylaw10.SoundWrong'. -/
def soundWrongCard : Claim7 := { stood := { row := soundWrongRow, standIns := [], harness := (true, "96ac4ed1abce56927af005d9f006e552418beb31815a0511857d7affd94f2447"), looks := true }, kinds := [], alts := [], laidByText := true, laidKinds := [.data, .data, .data, .data, .sentinel, .sentinel, .pinned], laidTests := true, laidLooks := .later }
def SoundWrongCardSaid : Prop := Claim7.holds Tryz.pinned (.plain (OpenSpec.ofChange soundWrongSpec)) soundWrongCard

/-- THE TIED CARD OF 'refectorylaw10.SoundMany'. -/
def soundManyCard : Claim7 := { stood := { row := soundManyRow, standIns := [], harness := (true, "96ac4ed1abce56927af005d9f006e552418beb31815a0511857d7affd94f2447"), looks := true }, kinds := [], alts := [], laidByText := true, laidKinds := [.data, .data, .data, .data, .sentinel, .sentinel, .pinned], laidTests := true, laidLooks := .later }
def SoundManyCardSaid : Prop := Claim7.holds Tryz.pinned (.plain (OpenSpec.ofChange soundManySpec)) soundManyCard

/-- THE TIED CARD OF 'refectorylaw10.SoundNumbers'. -/
def soundNumbersCard : Claim7 := { stood := { row := soundNumbersRow, standIns := [], harness := (true, "96ac4ed1abce56927af005d9f006e552418beb31815a0511857d7affd94f2447"), looks := true }, kinds := [], alts := [], laidByText := true, laidKinds := [.data, .data, .data, .data, .sentinel, .sentinel, .pinned], laidTests := true, laidLooks := .later }
def SoundNumbersCardSaid : Prop := Claim7.holds Tryz.pinned (.plain (OpenSpec.ofChange soundNumbersSpec)) soundNumbersCard

/-- THE SECOND FORM's CARD OF 'refectorylaw09.SchemaAll'. -/
def schemaAllUptoCard : Claim7 := { stood := { row := schemaAllUptoRow, standIns := [], harness := (true, "96ac4ed1abce56927af005d9f006e552418beb31815a0511857d7affd94f2447"), looks := true }, kinds := [], alts := [], laidByText := true, laidKinds := [.data, .pinned], laidTests := true, laidLooks := .later }
def SchemaAllUptoCardSaid : Prop := Claim7.holds Tryz.pinned (.plain (OpenSpec.upto schemaAllSpec)) schemaAllUptoCard

/-- THE SECOND FORM's CARD OF 'refectorylaw10.SoundTexts'. -/
def soundTextsUptoCard : Claim7 := { stood := { row := soundTextsUptoRow, standIns := [], harness := (true, "96ac4ed1abce56927af005d9f006e552418beb31815a0511857d7affd94f2447"), looks := true }, kinds := [], alts := [], laidByText := true, laidKinds := [.data, .data, .data, .data, .sentinel, .sentinel, .pinned], laidTests := true, laidLooks := .later }
def SoundTextsUptoCardSaid : Prop := Claim7.holds Tryz.pinned (.plain (OpenSpec.upto soundTextsSpec)) soundTextsUptoCard

/-- THE SECOND FORM's CARD OF 'refectorylaw10.SoundWrong'. -/
def soundWrongUptoCard : Claim7 := { stood := { row := soundWrongUptoRow, standIns := [], harness := (true, "96ac4ed1abce56927af005d9f006e552418beb31815a0511857d7affd94f2447"), looks := true }, kinds := [], alts := [], laidByText := true, laidKinds := [.data, .data, .data, .data, .sentinel, .sentinel, .pinned], laidTests := true, laidLooks := .later }
def SoundWrongUptoCardSaid : Prop := Claim7.holds Tryz.pinned (.plain (OpenSpec.upto soundWrongSpec)) soundWrongUptoCard

/-- THE SECOND FORM's CARD OF 'refectorylaw10.SoundMany'. -/
def soundManyUptoCard : Claim7 := { stood := { row := soundManyUptoRow, standIns := [], harness := (true, "96ac4ed1abce56927af005d9f006e552418beb31815a0511857d7affd94f2447"), looks := true }, kinds := [], alts := [], laidByText := true, laidKinds := [.data, .data, .data, .data, .sentinel, .sentinel, .pinned], laidTests := true, laidLooks := .later }
def SoundManyUptoCardSaid : Prop := Claim7.holds Tryz.pinned (.plain (OpenSpec.upto soundManySpec)) soundManyUptoCard

/-- THE SECOND FORM's CARD OF 'refectorylaw10.SoundNumbers'. -/
def soundNumbersUptoCard : Claim7 := { stood := { row := soundNumbersUptoRow, standIns := [], harness := (true, "96ac4ed1abce56927af005d9f006e552418beb31815a0511857d7affd94f2447"), looks := true }, kinds := [], alts := [], laidByText := true, laidKinds := [.data, .data, .data, .data, .sentinel, .sentinel, .pinned], laidTests := true, laidLooks := .later }
def SoundNumbersUptoCardSaid : Prop := Claim7.holds Tryz.pinned (.plain (OpenSpec.upto soundNumbersSpec)) soundNumbersUptoCard
end Rows
end Go.Proofs.YtllbfabgglneeaaGreatDoor
