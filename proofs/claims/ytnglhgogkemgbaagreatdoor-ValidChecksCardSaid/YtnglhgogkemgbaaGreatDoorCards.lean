/-
  DERIVED. GIVEN WITH THE SEED: THE CARDS: each row of YtnglhgogkemgbaaGreatDoorRows.lean that lists a variable, with what it lists TIED to the program's text (the seventh form; the later family's looks); each row that meets fmt, with fmt's text TOLD by the authors' own Lean function (tested against real Go, not proved from fmt's source: count such statements apart). THE CARD IS WHAT COUNTS. Prove the row's statement (the work); the ties are given (YtnglhgogkemgbaaGreatDoorTie.lean); close each card by the builder's one call (the guide's Derived/Test/ToyasCard.lean, 'card_holds'). Laid BY PROGRAM, IN A SANDBOX (cutbox-door.mjs). By AI agents, Wed Nov 11 2026. No macro, syntax, notation, axiom, sorry.
-/
import Derived.Test.YtnglhgogkemgbaaGreatDoorRows
import GoSem.ClaimSeven
namespace Go.Proofs.YtnglhgogkemgbaaGreatDoor
namespace Rows

/-- THE TIED CARD OF 'lecternlaw11.ValidChecks'. -/
def validChecksCard : Claim7 := { stood := { row := validChecksRow, standIns := [], harness := (true, "24a56d8060178e2498f84f2afb7daade300b19709d87a1e5c752432093f32334"), looks := true }, kinds := [], alts := [], laidByText := true, laidKinds := [.data, .data, .data, .data, .sentinel, .sentinel, .listed, .data, .pinned], laidTests := true, laidLooks := .later }
def ValidChecksCardSaid : Prop := Claim7.holds Tryz.pinned (.plain (OpenSpec.ofChange validChecksSpec)) validChecksCard

/-- THE TIED CARD OF 'lecternlaw11.ValidOrder'. -/
def validOrderCard : Claim7 := { stood := { row := validOrderRow, standIns := [], harness := (true, "24a56d8060178e2498f84f2afb7daade300b19709d87a1e5c752432093f32334"), looks := true }, kinds := [], alts := [], laidByText := true, laidKinds := [.data, .data, .data, .data, .sentinel, .sentinel, .listed, .data, .pinned], laidTests := true, laidLooks := .later }
def ValidOrderCardSaid : Prop := Claim7.holds Tryz.pinned (.plain (OpenSpec.ofChange validOrderSpec)) validOrderCard

/-- THE TIED CARD OF 'lecternlaw11.ValidPart'. -/
def validPartCard : Claim7 := { stood := { row := validPartRow, standIns := [], harness := (true, "24a56d8060178e2498f84f2afb7daade300b19709d87a1e5c752432093f32334"), looks := true }, kinds := [], alts := [], laidByText := true, laidKinds := [.data, .data, .data, .data, .sentinel, .sentinel, .listed, .data, .pinned], laidTests := true, laidLooks := .later }
def ValidPartCardSaid : Prop := Claim7.holds Tryz.pinned (.plain (OpenSpec.ofChange validPartSpec)) validPartCard

/-- THE SECOND FORM's CARD OF 'lecternlaw11.ValidChecks'. -/
def validChecksUptoCard : Claim7 := { stood := { row := validChecksUptoRow, standIns := [], harness := (true, "24a56d8060178e2498f84f2afb7daade300b19709d87a1e5c752432093f32334"), looks := true }, kinds := [], alts := [], laidByText := true, laidKinds := [.data, .data, .data, .data, .sentinel, .sentinel, .listed, .data, .pinned], laidTests := true, laidLooks := .later }
def ValidChecksUptoCardSaid : Prop := Claim7.holds Tryz.pinned (.plain (OpenSpec.upto validChecksSpec)) validChecksUptoCard

/-- THE SECOND FORM's CARD OF 'lecternlaw11.ValidOrder'. -/
def validOrderUptoCard : Claim7 := { stood := { row := validOrderUptoRow, standIns := [], harness := (true, "24a56d8060178e2498f84f2afb7daade300b19709d87a1e5c752432093f32334"), looks := true }, kinds := [], alts := [], laidByText := true, laidKinds := [.data, .data, .data, .data, .sentinel, .sentinel, .listed, .data, .pinned], laidTests := true, laidLooks := .later }
def ValidOrderUptoCardSaid : Prop := Claim7.holds Tryz.pinned (.plain (OpenSpec.upto validOrderSpec)) validOrderUptoCard

/-- THE SECOND FORM's CARD OF 'lecternlaw11.ValidPart'. -/
def validPartUptoCard : Claim7 := { stood := { row := validPartUptoRow, standIns := [], harness := (true, "24a56d8060178e2498f84f2afb7daade300b19709d87a1e5c752432093f32334"), looks := true }, kinds := [], alts := [], laidByText := true, laidKinds := [.data, .data, .data, .data, .sentinel, .sentinel, .listed, .data, .pinned], laidTests := true, laidLooks := .later }
def ValidPartUptoCardSaid : Prop := Claim7.holds Tryz.pinned (.plain (OpenSpec.upto validPartSpec)) validPartUptoCard
end Rows
end Go.Proofs.YtnglhgogkemgbaaGreatDoor
