/-
  DERIVED. GIVEN WITH THE SEED: THE CARDS: each row of YtchjjfjjcdjjcaaGreatDoorRows.lean that lists a variable, with what it lists TIED to the program's text (the seventh form; the later family's looks); each row that meets fmt, with fmt's text TOLD by the authors' own Lean function (tested against real Go, not proved from fmt's source: count such statements apart). THE CARD IS WHAT COUNTS. Prove the row's statement (the work); the ties are given (YtchjjfjjcdjjcaaGreatDoorTie.lean); close each card by the builder's one call (the guide's Derived/Test/ToyasCard.lean, 'card_holds'). Laid BY PROGRAM, IN A SANDBOX (cutbox-door.mjs). By AI agents, Wed Nov 11 2026. No macro, syntax, notation, axiom, sorry.
-/
import Derived.Test.YtchjjfjjcdjjcaaGreatDoorRows
import GoSem.ClaimSeven
namespace Go.Proofs.YtchjjfjjcdjjcaaGreatDoor
namespace Rows

/-- THE TIED CARD OF 'lecternlaw10.TailorWrites'. -/
def tailorWritesCard : Claim7 := { stood := { row := tailorWritesRow, standIns := [], harness := (true, "57a3d388baf2b653adfb4a56bcc04b98dc4a3c056ebc7ca1de9f55299671ab89"), looks := true }, kinds := [], alts := [], laidByText := true, laidKinds := [.data, .data, .data, .sentinel, .sentinel], laidTests := true, laidLooks := .later }
def TailorWritesCardSaid : Prop := Claim7.holds Tryz.pinned (.plain (OpenSpec.ofChange tailorWritesSpec)) tailorWritesCard

/-- THE SECOND FORM's CARD OF 'lecternlaw10.TailorWrites'. -/
def tailorWritesUptoCard : Claim7 := { stood := { row := tailorWritesUptoRow, standIns := [], harness := (true, "57a3d388baf2b653adfb4a56bcc04b98dc4a3c056ebc7ca1de9f55299671ab89"), looks := true }, kinds := [], alts := [], laidByText := true, laidKinds := [.data, .data, .data, .sentinel, .sentinel], laidTests := true, laidLooks := .later }
def TailorWritesUptoCardSaid : Prop := Claim7.holds Tryz.pinned (.plain (OpenSpec.upto tailorWritesSpec)) tailorWritesUptoCard
end Rows
end Go.Proofs.YtchjjfjjcdjjcaaGreatDoor
