/-
  DERIVED. GIVEN WITH THE SEED: THE CARDS: each row of YtbodmnijpdffaaaDoorRows.lean that lists a variable, with what it lists TIED to the program's text (the seventh form; the later family's looks); each row that meets fmt, with fmt's text TOLD by the authors' own Lean function (tested against real Go, not proved from fmt's source: count such statements apart). THE CARD IS WHAT COUNTS. Prove the row's statement (the work); the ties are given (YtbodmnijpdffaaaDoorTie.lean); close each card by the builder's one call (the guide's Derived/Test/ToyasCard.lean, 'card_holds'). Laid BY PROGRAM, IN A SANDBOX (cutbox-door.mjs). By AI agents, Wed Nov 11 2026. No macro, syntax, notation, axiom, sorry.
-/
import Derived.Test.YtbodmnijpdffaaaDoorRows
import GoSem.ClaimSeven
namespace Go.Proofs.YtbodmnijpdffaaaDoor
namespace Rows

/-- THE TIED CARD OF 'sphenoidlaw22.DiagChecks'. -/
def diagChecksCard : Claim7 := { stood := { row := diagChecksRow, standIns := [], harness := (true, "1764b4aed222cb47f4c1fb45409bc0c5b5638fbc05dcd65a46637b2b2cc4e3ae"), looks := false }, kinds := [], alts := [], laidByText := true, laidKinds := [.data, .data, .data], laidTests := true, laidLooks := .later }
def DiagChecksCardSaid : Prop := Claim7.holds Tryd.pinned (.plain (OpenSpec.ofChange diagChecksSpec)) diagChecksCard

/-- THE TIED CARD OF 'sphenoidlaw22.DiagChanges'. -/
def diagChangesCard : Claim7 := { stood := { row := diagChangesRow, standIns := [], harness := (true, "1764b4aed222cb47f4c1fb45409bc0c5b5638fbc05dcd65a46637b2b2cc4e3ae"), looks := false }, kinds := [], alts := [], laidByText := true, laidKinds := [.data, .data, .data], laidTests := true, laidLooks := .later }
def DiagChangesCardSaid : Prop := Claim7.holds Tryd.pinned (.plain (OpenSpec.ofChange diagChangesSpec)) diagChangesCard

/-- THE TIED CARD OF 'sphenoidlaw22.DiagLinks'. -/
def diagLinksCard : Claim7 := { stood := { row := diagLinksRow, standIns := [], harness := (true, "1764b4aed222cb47f4c1fb45409bc0c5b5638fbc05dcd65a46637b2b2cc4e3ae"), looks := false }, kinds := [], alts := [], laidByText := true, laidKinds := [.data, .data, .data], laidTests := true, laidLooks := .later }
def DiagLinksCardSaid : Prop := Claim7.holds Tryd.pinned (.plain (OpenSpec.ofChange diagLinksSpec)) diagLinksCard

/-- THE TIED CARD OF 'sphenoidlaw22.DiagSums'. -/
def diagSumsCard : Claim7 := { stood := { row := diagSumsRow, standIns := [], harness := (true, "1764b4aed222cb47f4c1fb45409bc0c5b5638fbc05dcd65a46637b2b2cc4e3ae"), looks := false }, kinds := [], alts := [], laidByText := true, laidKinds := [.data, .data, .data], laidTests := true, laidLooks := .later }
def DiagSumsCardSaid : Prop := Claim7.holds Tryd.pinned (.plain (OpenSpec.ofChange diagSumsSpec)) diagSumsCard

/-- THE SECOND FORM's CARD OF 'sphenoidlaw22.DiagChecks'. -/
def diagChecksUptoCard : Claim7 := { stood := { row := diagChecksUptoRow, standIns := [], harness := (true, "1764b4aed222cb47f4c1fb45409bc0c5b5638fbc05dcd65a46637b2b2cc4e3ae"), looks := false }, kinds := [], alts := [], laidByText := true, laidKinds := [.data, .data, .data], laidTests := true, laidLooks := .later }
def DiagChecksUptoCardSaid : Prop := Claim7.holds Tryd.pinned (.plain (OpenSpec.upto diagChecksSpec)) diagChecksUptoCard

/-- THE SECOND FORM's CARD OF 'sphenoidlaw22.DiagChanges'. -/
def diagChangesUptoCard : Claim7 := { stood := { row := diagChangesUptoRow, standIns := [], harness := (true, "1764b4aed222cb47f4c1fb45409bc0c5b5638fbc05dcd65a46637b2b2cc4e3ae"), looks := false }, kinds := [], alts := [], laidByText := true, laidKinds := [.data, .data, .data], laidTests := true, laidLooks := .later }
def DiagChangesUptoCardSaid : Prop := Claim7.holds Tryd.pinned (.plain (OpenSpec.upto diagChangesSpec)) diagChangesUptoCard

/-- THE SECOND FORM's CARD OF 'sphenoidlaw22.DiagLinks'. -/
def diagLinksUptoCard : Claim7 := { stood := { row := diagLinksUptoRow, standIns := [], harness := (true, "1764b4aed222cb47f4c1fb45409bc0c5b5638fbc05dcd65a46637b2b2cc4e3ae"), looks := false }, kinds := [], alts := [], laidByText := true, laidKinds := [.data, .data, .data], laidTests := true, laidLooks := .later }
def DiagLinksUptoCardSaid : Prop := Claim7.holds Tryd.pinned (.plain (OpenSpec.upto diagLinksSpec)) diagLinksUptoCard

/-- THE SECOND FORM's CARD OF 'sphenoidlaw22.DiagSums'. -/
def diagSumsUptoCard : Claim7 := { stood := { row := diagSumsUptoRow, standIns := [], harness := (true, "1764b4aed222cb47f4c1fb45409bc0c5b5638fbc05dcd65a46637b2b2cc4e3ae"), looks := false }, kinds := [], alts := [], laidByText := true, laidKinds := [.data, .data, .data], laidTests := true, laidLooks := .later }
def DiagSumsUptoCardSaid : Prop := Claim7.holds Tryd.pinned (.plain (OpenSpec.upto diagSumsSpec)) diagSumsUptoCard
end Rows
end Go.Proofs.YtbodmnijpdffaaaDoor
