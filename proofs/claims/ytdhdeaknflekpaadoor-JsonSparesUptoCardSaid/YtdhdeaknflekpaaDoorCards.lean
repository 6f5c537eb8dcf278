/-
  DERIVED. GIVEN WITH THE SEED: THE CARDS: each row of YtdhdeaknflekpaaDoorRows.lean that lists a variable, with what it lists TIED to the program's text (the seventh form; the later family's looks); each row that meets fmt, with fmt's text TOLD by the authors' own Lean function (tested against real Go, not proved from fmt's source: count such statements apart). THE CARD IS WHAT COUNTS. Prove the row's statement (the work); the ties are given (YtdhdeaknflekpaaDoorTie.lean); close each card by the builder's one call (the guide's Derived/Test/ToyasCard.lean, 'card_holds'). Laid BY PROGRAM, IN A SANDBOX (cutbox-door.mjs). By AI agents, Wed Nov 11 2026. No macro, syntax, notation, axiom, sorry.
-/
import Derived.Test.YtdhdeaknflekpaaDoorRows
import GoSem.ClaimSeven
namespace Go.Proofs.YtdhdeaknflekpaaDoor
namespace Rows

/-- THE TIED CARD OF 'trellislaw25.JsonBack'. -/
def jsonBackCard : Claim7 := { stood := { row := jsonBackRow, standIns := [], harness := (true, "531b154e6321ddd4fd76716d59f5c9d375f1a87da81ae497df034dc785a91fbc"), looks := false }, kinds := [], alts := [], laidByText := true, laidKinds := [.data, .data, .data, .pinned], laidTests := true, laidLooks := .later }
def JsonBackCardSaid : Prop := Claim7.holds Tryd.pinned (.plain (OpenSpec.ofChange jsonBackSpec)) jsonBackCard

/-- THE TIED CARD OF 'trellislaw25.JsonReads'. -/
def jsonReadsCard : Claim7 := { stood := { row := jsonReadsRow, standIns := [], harness := (true, "531b154e6321ddd4fd76716d59f5c9d375f1a87da81ae497df034dc785a91fbc"), looks := false }, kinds := [], alts := [], laidByText := true, laidKinds := [.data, .data, .data, .pinned], laidTests := true, laidLooks := .later }
def JsonReadsCardSaid : Prop := Claim7.holds Tryd.pinned (.plain (OpenSpec.ofChange jsonReadsSpec)) jsonReadsCard

/-- THE TIED CARD OF 'trellislaw25.JsonFirm'. -/
def jsonFirmCard : Claim7 := { stood := { row := jsonFirmRow, standIns := [], harness := (true, "531b154e6321ddd4fd76716d59f5c9d375f1a87da81ae497df034dc785a91fbc"), looks := false }, kinds := [], alts := [], laidByText := true, laidKinds := [.data, .data, .data, .pinned], laidTests := true, laidLooks := .later }
def JsonFirmCardSaid : Prop := Claim7.holds Tryd.pinned (.plain (OpenSpec.ofChange jsonFirmSpec)) jsonFirmCard

/-- THE TIED CARD OF 'trellislaw25.JsonBlanks'. -/
def jsonBlanksCard : Claim7 := { stood := { row := jsonBlanksRow, standIns := [], harness := (true, "531b154e6321ddd4fd76716d59f5c9d375f1a87da81ae497df034dc785a91fbc"), looks := false }, kinds := [], alts := [], laidByText := true, laidKinds := [.data, .data, .data, .pinned], laidTests := true, laidLooks := .later }
def JsonBlanksCardSaid : Prop := Claim7.holds Tryd.pinned (.plain (OpenSpec.ofChange jsonBlanksSpec)) jsonBlanksCard

/-- THE TIED CARD OF 'trellislaw25.JsonSpares'. -/
def jsonSparesCard : Claim7 := { stood := { row := jsonSparesRow, standIns := [], harness := (true, "531b154e6321ddd4fd76716d59f5c9d375f1a87da81ae497df034dc785a91fbc"), looks := false }, kinds := [], alts := [], laidByText := true, laidKinds := [.data, .data, .data, .pinned], laidTests := true, laidLooks := .later }
def JsonSparesCardSaid : Prop := Claim7.holds Tryd.pinned (.plain (OpenSpec.ofChange jsonSparesSpec)) jsonSparesCard

/-- THE TIED CARD OF 'trellislaw25.JsonInts'. -/
def jsonIntsCard : Claim7 := { stood := { row := jsonIntsRow, standIns := [], harness := (true, "531b154e6321ddd4fd76716d59f5c9d375f1a87da81ae497df034dc785a91fbc"), looks := false }, kinds := [], alts := [], laidByText := true, laidKinds := [.data, .data, .data, .data, .data, .data, .pinned], laidTests := true, laidLooks := .later }
def JsonIntsCardSaid : Prop := Claim7.holds Tryd.pinned (.plain (OpenSpec.ofChange jsonIntsSpec)) jsonIntsCard

/-- THE SECOND FORM's CARD OF 'trellislaw25.JsonBack'. -/
def jsonBackUptoCard : Claim7 := { stood := { row := jsonBackUptoRow, standIns := [], harness := (true, "531b154e6321ddd4fd76716d59f5c9d375f1a87da81ae497df034dc785a91fbc"), looks := false }, kinds := [], alts := [], laidByText := true, laidKinds := [.data, .data, .data, .pinned], laidTests := true, laidLooks := .later }
def JsonBackUptoCardSaid : Prop := Claim7.holds Tryd.pinned (.plain (OpenSpec.upto jsonBackSpec)) jsonBackUptoCard

/-- THE SECOND FORM's CARD OF 'trellislaw25.JsonReads'. -/
def jsonReadsUptoCard : Claim7 := { stood := { row := jsonReadsUptoRow, standIns := [], harness := (true, "531b154e6321ddd4fd76716d59f5c9d375f1a87da81ae497df034dc785a91fbc"), looks := false }, kinds := [], alts := [], laidByText := true, laidKinds := [.data, .data, .data, .pinned], laidTests := true, laidLooks := .later }
def JsonReadsUptoCardSaid : Prop := Claim7.holds Tryd.pinned (.plain (OpenSpec.upto jsonReadsSpec)) jsonReadsUptoCard

/-- THE SECOND FORM's CARD OF 'trellislaw25.JsonFirm'. -/
def jsonFirmUptoCard : Claim7 := { stood := { row := jsonFirmUptoRow, standIns := [], harness := (true, "531b154e6321ddd4fd76716d59f5c9d375f1a87da81ae497df034dc785a91fbc"), looks := false }, kinds := [], alts := [], laidByText := true, laidKinds := [.data, .data, .data, .pinned], laidTests := true, laidLooks := .later }
def JsonFirmUptoCardSaid : Prop := Claim7.holds Tryd.pinned (.plain (OpenSpec.upto jsonFirmSpec)) jsonFirmUptoCard

/-- THE SECOND FORM's CARD OF 'trellislaw25.JsonBlanks'. -/
def jsonBlanksUptoCard : Claim7 := { stood := { row := jsonBlanksUptoRow, standIns := [], harness := (true, "531b154e6321ddd4fd76716d59f5c9d375f1a87da81ae497df034dc785a91fbc"), looks := false }, kinds := [], alts := [], laidByText := true, laidKinds := [.data, .data, .data, .pinned], laidTests := true, laidLooks := .later }
def JsonBlanksUptoCardSaid : Prop := Claim7.holds Tryd.pinned (.plain (OpenSpec.upto jsonBlanksSpec)) jsonBlanksUptoCard

/-- THE SECOND FORM's CARD OF 'trellislaw25.JsonSpares'. -/
def jsonSparesUptoCard : Claim7 := { stood := { row := jsonSparesUptoRow, standIns := [], harness := (true, "531b154e6321ddd4fd76716d59f5c9d375f1a87da81ae497df034dc785a91fbc"), looks := false }, kinds := [], alts := [], laidByText := true, laidKinds := [.data, .data, .data, .pinned], laidTests := true, laidLooks := .later }
def JsonSparesUptoCardSaid : Prop := Claim7.holds Tryd.pinned (.plain (OpenSpec.upto jsonSparesSpec)) jsonSparesUptoCard

/-- THE SECOND FORM's CARD OF 'trellislaw25.JsonInts'. -/
def jsonIntsUptoCard : Claim7 := { stood := { row := jsonIntsUptoRow, standIns := [], harness := (true, "531b154e6321ddd4fd76716d59f5c9d375f1a87da81ae497df034dc785a91fbc"), looks := false }, kinds := [], alts := [], laidByText := true, laidKinds := [.data, .data, .data, .data, .data, .data, .pinned], laidTests := true, laidLooks := .later }
def JsonIntsUptoCardSaid : Prop := Claim7.holds Tryd.pinned (.plain (OpenSpec.upto jsonIntsSpec)) jsonIntsUptoCard
end Rows
end Go.Proofs.YtdhdeaknflekpaaDoor
