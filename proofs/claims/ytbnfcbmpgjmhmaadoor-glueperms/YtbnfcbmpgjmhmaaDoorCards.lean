/-
  DERIVED. GIVEN WITH THE SEED: THE CARDS: each row of YtbnfcbmpgjmhmaaDoorRows.lean that lists a variable, with what it lists TIED to the program's text (the seventh form; the later family's looks); each row that meets fmt, with fmt's text TOLD by the authors' own Lean function (tested against real Go, not proved from fmt's source: count such statements apart). THE CARD IS WHAT COUNTS. Prove the row's statement (the work); the ties are given (YtbnfcbmpgjmhmaaDoorTie.lean); close each card by the builder's one call (the guide's Derived/Test/ToyasCard.lean, 'card_holds'). Laid BY PROGRAM, IN A SANDBOX (cutbox-door.mjs). By AI agents, Wed Nov 11 2026. No macro, syntax, notation, axiom, sorry.
-/
import Derived.Test.YtbnfcbmpgjmhmaaDoorRows
import GoSem.ClaimSeven
namespace Go.Proofs.YtbnfcbmpgjmhmaaDoor
namespace Rows

/-- THE TIED CARD OF 'sphenoidlaw01.GluePerms'. -/
def gluePermsCard : Claim7 := { stood := { row := gluePermsRow, standIns := [], harness := (true, "bc9358b85b895b9edf3b69c49df470d6bb11479dfd8744d99185df7018955ad3"), looks := true }, kinds := [], alts := [], laidByText := true, laidKinds := [.data, .data, .data, .data, .sentinel, .sentinel, .pinned], laidTests := true, laidLooks := .later }
def GluePermsCardSaid : Prop := Claim7.holds Tryd.pinned (.plain (OpenSpec.ofChange gluePermsSpec)) gluePermsCard

/-- THE SECOND FORM's CARD OF 'sphenoidlaw01.GluePerms'. -/
def gluePermsUptoCard : Claim7 := { stood := { row := gluePermsUptoRow, standIns := [], harness := (true, "bc9358b85b895b9edf3b69c49df470d6bb11479dfd8744d99185df7018955ad3"), looks := true }, kinds := [], alts := [], laidByText := true, laidKinds := [.data, .data, .data, .data, .sentinel, .sentinel, .pinned], laidTests := true, laidLooks := .later }
def GluePermsUptoCardSaid : Prop := Claim7.holds Tryd.pinned (.plain (OpenSpec.upto gluePermsSpec)) gluePermsUptoCard
end Rows
end Go.Proofs.YtbnfcbmpgjmhmaaDoor
