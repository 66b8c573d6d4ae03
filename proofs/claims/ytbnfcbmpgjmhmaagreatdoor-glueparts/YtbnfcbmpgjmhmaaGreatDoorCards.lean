/-
  DERIVED. GIVEN WITH THE SEED: THE CARDS: each row of YtbnfcbmpgjmhmaaGreatDoorRows.lean that lists a variable, with what it lists TIED to the program's text (the seventh form; the later family's looks); each row that meets fmt, with fmt's text TOLD by the authors' own Lean function (tested against real Go, not proved from fmt's source: count such statements apart). THE CARD IS WHAT COUNTS. Prove the row's statement (the work); the ties are given (YtbnfcbmpgjmhmaaGreatDoorTie.lean); close each card by the builder's one call (the guide's Derived/Test/ToyasCard.lean, 'card_holds'). Laid BY PROGRAM, IN A SANDBOX (cutbox-door.mjs). By AI agents, Wed Nov 11 2026. No macro, syntax, notation, axiom, sorry.
-/
import Derived.Test.YtbnfcbmpgjmhmaaGreatDoorRows
import GoSem.ClaimSeven
namespace Go.Proofs.YtbnfcbmpgjmhmaaGreatDoor
namespace Rows

/-- THE TIED CARD OF 'sphenoidlaw01.GlueTwofold'. -/
def glueTwofoldCard : Claim7 := { stood := { row := glueTwofoldRow, standIns := [], harness := (true, "4e5397c729cb3721b777706b131da092b8b4c621360773b1dc907e296638ffe9"), looks := true }, kinds := [], alts := [], laidByText := true, laidKinds := [.data, .data, .data, .data, .sentinel, .sentinel, .pinned], laidTests := true, laidLooks := .later }
def GlueTwofoldCardSaid : Prop := Claim7.holds Tryz.pinned (.plain (OpenSpec.ofChange glueTwofoldSpec)) glueTwofoldCard

/-- THE TIED CARD OF 'sphenoidlaw01.GlueMakes'. -/
def glueMakesCard : Claim7 := { stood := { row := glueMakesRow, standIns := [], harness := (true, "4e5397c729cb3721b777706b131da092b8b4c621360773b1dc907e296638ffe9"), looks := true }, kinds := [], alts := [], laidByText := true, laidKinds := [.data, .data, .data, .data, .sentinel, .sentinel, .pinned], laidTests := true, laidLooks := .later }
def GlueMakesCardSaid : Prop := Claim7.holds Tryz.pinned (.plain (OpenSpec.ofChange glueMakesSpec)) glueMakesCard

/-- THE TIED CARD OF 'sphenoidlaw01.GlueBasics'. -/
def glueBasicsCard : Claim7 := { stood := { row := glueBasicsRow, standIns := [], harness := (true, "4e5397c729cb3721b777706b131da092b8b4c621360773b1dc907e296638ffe9"), looks := true }, kinds := [], alts := [], laidByText := true, laidKinds := [.data, .data, .data, .data, .sentinel, .sentinel, .pinned], laidTests := true, laidLooks := .later }
def GlueBasicsCardSaid : Prop := Claim7.holds Tryz.pinned (.plain (OpenSpec.ofChange glueBasicsSpec)) glueBasicsCard

/-- THE TIED CARD OF 'sphenoidlaw01.GlueParts'. -/
def gluePartsCard : Claim7 := { stood := { row := gluePartsRow, standIns := [], harness := (true, "4e5397c729cb3721b777706b131da092b8b4c621360773b1dc907e296638ffe9"), looks := true }, kinds := [], alts := [], laidByText := true, laidKinds := [.data, .data, .data, .data, .sentinel, .sentinel, .pinned], laidTests := true, laidLooks := .later }
def GluePartsCardSaid : Prop := Claim7.holds Tryz.pinned (.plain (OpenSpec.ofChange gluePartsSpec)) gluePartsCard

/-- THE TIED CARD OF 'sphenoidlaw01.GlueRenumbers'. -/
def glueRenumbersCard : Claim7 := { stood := { row := glueRenumbersRow, standIns := [], harness := (true, "4e5397c729cb3721b777706b131da092b8b4c621360773b1dc907e296638ffe9"), looks := true }, kinds := [], alts := [], laidByText := true, laidKinds := [.data, .data, .data, .data, .sentinel, .sentinel, .pinned], laidTests := true, laidLooks := .later }
def GlueRenumbersCardSaid : Prop := Claim7.holds Tryz.pinned (.plain (OpenSpec.ofChange glueRenumbersSpec)) glueRenumbersCard

/-- THE TIED CARD OF 'sphenoidlaw01.GlueStays'. -/
def glueStaysCard : Claim7 := { stood := { row := glueStaysRow, standIns := [], harness := (true, "4e5397c729cb3721b777706b131da092b8b4c621360773b1dc907e296638ffe9"), looks := true }, kinds := [], alts := [], laidByText := true, laidKinds := [.data, .data, .data, .data, .sentinel, .sentinel, .pinned], laidTests := true, laidLooks := .later }
def GlueStaysCardSaid : Prop := Claim7.holds Tryz.pinned (.plain (OpenSpec.ofChange glueStaysSpec)) glueStaysCard

/-- THE SECOND FORM's CARD OF 'sphenoidlaw01.GlueTwofold'. -/
def glueTwofoldUptoCard : Claim7 := { stood := { row := glueTwofoldUptoRow, standIns := [], harness := (true, "4e5397c729cb3721b777706b131da092b8b4c621360773b1dc907e296638ffe9"), looks := true }, kinds := [], alts := [], laidByText := true, laidKinds := [.data, .data, .data, .data, .sentinel, .sentinel, .pinned], laidTests := true, laidLooks := .later }
def GlueTwofoldUptoCardSaid : Prop := Claim7.holds Tryz.pinned (.plain (OpenSpec.upto glueTwofoldSpec)) glueTwofoldUptoCard

/-- THE SECOND FORM's CARD OF 'sphenoidlaw01.GlueMakes'. -/
def glueMakesUptoCard : Claim7 := { stood := { row := glueMakesUptoRow, standIns := [], harness := (true, "4e5397c729cb3721b777706b131da092b8b4c621360773b1dc907e296638ffe9"), looks := true }, kinds := [], alts := [], laidByText := true, laidKinds := [.data, .data, .data, .data, .sentinel, .sentinel, .pinned], laidTests := true, laidLooks := .later }
def GlueMakesUptoCardSaid : Prop := Claim7.holds Tryz.pinned (.plain (OpenSpec.upto glueMakesSpec)) glueMakesUptoCard

/-- THE SECOND FORM's CARD OF 'sphenoidlaw01.GlueBasics'. -/
def glueBasicsUptoCard : Claim7 := { stood := { row := glueBasicsUptoRow, standIns := [], harness := (true, "4e5397c729cb3721b777706b131da092b8b4c621360773b1dc907e296638ffe9"), looks := true }, kinds := [], alts := [], laidByText := true, laidKinds := [.data, .data, .data, .data, .sentinel, .sentinel, .pinned], laidTests := true, laidLooks := .later }
def GlueBasicsUptoCardSaid : Prop := Claim7.holds Tryz.pinned (.plain (OpenSpec.upto glueBasicsSpec)) glueBasicsUptoCard

/-- THE SECOND FORM's CARD OF 'sphenoidlaw01.GlueParts'. -/
def gluePartsUptoCard : Claim7 := { stood := { row := gluePartsUptoRow, standIns := [], harness := (true, "4e5397c729cb3721b777706b131da092b8b4c621360773b1dc907e296638ffe9"), looks := true }, kinds := [], alts := [], laidByText := true, laidKinds := [.data, .data, .data, .data, .sentinel, .sentinel, .pinned], laidTests := true, laidLooks := .later }
def GluePartsUptoCardSaid : Prop := Claim7.holds Tryz.pinned (.plain (OpenSpec.upto gluePartsSpec)) gluePartsUptoCard

/-- THE SECOND FORM's CARD OF 'sphenoidlaw01.GlueRenumbers'. -/
def glueRenumbersUptoCard : Claim7 := { stood := { row := glueRenumbersUptoRow, standIns := [], harness := (true, "4e5397c729cb3721b777706b131da092b8b4c621360773b1dc907e296638ffe9"), looks := true }, kinds := [], alts := [], laidByText := true, laidKinds := [.data, .data, .data, .data, .sentinel, .sentinel, .pinned], laidTests := true, laidLooks := .later }
def GlueRenumbersUptoCardSaid : Prop := Claim7.holds Tryz.pinned (.plain (OpenSpec.upto glueRenumbersSpec)) glueRenumbersUptoCard

/-- THE SECOND FORM's CARD OF 'sphenoidlaw01.GlueStays'. -/
def glueStaysUptoCard : Claim7 := { stood := { row := glueStaysUptoRow, standIns := [], harness := (true, "4e5397c729cb3721b777706b131da092b8b4c621360773b1dc907e296638ffe9"), looks := true }, kinds := [], alts := [], laidByText := true, laidKinds := [.data, .data, .data, .data, .sentinel, .sentinel, .pinned], laidTests := true, laidLooks := .later }
def GlueStaysUptoCardSaid : Prop := Claim7.holds Tryz.pinned (.plain (OpenSpec.upto glueStaysSpec)) glueStaysUptoCard
end Rows
end Go.Proofs.YtbnfcbmpgjmhmaaGreatDoor
