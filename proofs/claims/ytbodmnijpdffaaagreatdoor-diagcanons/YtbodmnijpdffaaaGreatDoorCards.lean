/-
  DERIVED. GIVEN WITH THE SEED: THE CARDS: each row of YtbodmnijpdffaaaGreatDoorRows.lean that lists a variable, with what it lists TIED to the program's text (the seventh form; the later family's looks); each row that meets fmt, with fmt's text TOLD by the authors' own Lean function (tested against real Go, not proved from fmt's source: count such statements apart). THE CARD IS WHAT COUNTS. Prove the row's statement (the work); the ties are given (YtbodmnijpdffaaaGreatDoorTie.lean); close each card by the builder's one call (the guide's Derived/Test/ToyasCard.lean, 'card_holds'). Laid BY PROGRAM, IN A SANDBOX (cutbox-door.mjs). By AI agents, Wed Nov 11 2026. No macro, syntax, notation, axiom, sorry.
-/
import Derived.Test.YtbodmnijpdffaaaGreatDoorRows
import GoSem.ClaimSeven
namespace Go.Proofs.YtbodmnijpdffaaaGreatDoor
namespace Rows

/-- THE TIED CARD OF 'sphenoidlaw22.DiagTexts'. -/
def diagTextsCard : Claim7 := { stood := { row := diagTextsRow, standIns := [], harness := (true, "70e7a238950354453d82c66c793135a1d2e3a5b854d74c8b52ea4e1f998ed73b"), looks := true }, kinds := [], alts := [], laidByText := true, laidKinds := [.data, .data, .data, .data, .sentinel, .sentinel, .pinned], laidTests := true, laidLooks := .later }
def DiagTextsCardSaid : Prop := Claim7.holds Tryz.pinned (.plain (OpenSpec.ofChange diagTextsSpec)) diagTextsCard

/-- THE TIED CARD OF 'sphenoidlaw22.DiagCanons'. -/
def diagCanonsCard : Claim7 := { stood := { row := diagCanonsRow, standIns := [], harness := (true, "70e7a238950354453d82c66c793135a1d2e3a5b854d74c8b52ea4e1f998ed73b"), looks := true }, kinds := [], alts := [], laidByText := true, laidKinds := [.data, .data, .data], laidTests := true, laidLooks := .later }
def DiagCanonsCardSaid : Prop := Claim7.holds Tryz.pinned (.plain (OpenSpec.ofChange diagCanonsSpec)) diagCanonsCard

/-- THE TIED CARD OF 'sphenoidlaw22.DiagStays'. -/
def diagStaysCard : Claim7 := { stood := { row := diagStaysRow, standIns := [], harness := (true, "70e7a238950354453d82c66c793135a1d2e3a5b854d74c8b52ea4e1f998ed73b"), looks := true }, kinds := [], alts := [], laidByText := true, laidKinds := [.data, .data, .data], laidTests := true, laidLooks := .later }
def DiagStaysCardSaid : Prop := Claim7.holds Tryz.pinned (.plain (OpenSpec.ofChange diagStaysSpec)) diagStaysCard

/-- THE SECOND FORM's CARD OF 'sphenoidlaw22.DiagTexts'. -/
def diagTextsUptoCard : Claim7 := { stood := { row := diagTextsUptoRow, standIns := [], harness := (true, "70e7a238950354453d82c66c793135a1d2e3a5b854d74c8b52ea4e1f998ed73b"), looks := true }, kinds := [], alts := [], laidByText := true, laidKinds := [.data, .data, .data, .data, .sentinel, .sentinel, .pinned], laidTests := true, laidLooks := .later }
def DiagTextsUptoCardSaid : Prop := Claim7.holds Tryz.pinned (.plain (OpenSpec.upto diagTextsSpec)) diagTextsUptoCard

/-- THE SECOND FORM's CARD OF 'sphenoidlaw22.DiagCanons'. -/
def diagCanonsUptoCard : Claim7 := { stood := { row := diagCanonsUptoRow, standIns := [], harness := (true, "70e7a238950354453d82c66c793135a1d2e3a5b854d74c8b52ea4e1f998ed73b"), looks := true }, kinds := [], alts := [], laidByText := true, laidKinds := [.data, .data, .data], laidTests := true, laidLooks := .later }
def DiagCanonsUptoCardSaid : Prop := Claim7.holds Tryz.pinned (.plain (OpenSpec.upto diagCanonsSpec)) diagCanonsUptoCard

/-- THE SECOND FORM's CARD OF 'sphenoidlaw22.DiagStays'. -/
def diagStaysUptoCard : Claim7 := { stood := { row := diagStaysUptoRow, standIns := [], harness := (true, "70e7a238950354453d82c66c793135a1d2e3a5b854d74c8b52ea4e1f998ed73b"), looks := true }, kinds := [], alts := [], laidByText := true, laidKinds := [.data, .data, .data], laidTests := true, laidLooks := .later }
def DiagStaysUptoCardSaid : Prop := Claim7.holds Tryz.pinned (.plain (OpenSpec.upto diagStaysSpec)) diagStaysUptoCard
end Rows
end Go.Proofs.YtbodmnijpdffaaaGreatDoor
