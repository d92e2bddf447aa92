/-
  DERIVED. GIVEN WITH THE SEED: THE CARDS: each row of YtchjjfjjcdjjcaaDoorRows.lean that lists a variable, with what it lists TIED to the program's text (the seventh form; the later family's looks); each row that meets fmt, with fmt's text TOLD by the authors' own Lean function (tested against real Go, not proved from fmt's source: count such statements apart). THE CARD IS WHAT COUNTS. Prove the row's statement (the work); the ties are given (YtchjjfjjcdjjcaaDoorTie.lean); close each card by the builder's one call (the guide's Derived/Test/ToyasCard.lean, 'card_holds'). Laid BY PROGRAM, IN A SANDBOX (cutbox-door.mjs). By AI agents, Wed Nov 11 2026. No macro, syntax, notation, axiom, sorry.
-/
import Derived.Test.YtchjjfjjcdjjcaaDoorRows
import GoSem.ClaimSeven
namespace Go.Proofs.YtchjjfjjcdjjcaaDoor
namespace Rows

/-- THE TIED CARD OF 'lecternlaw10.TailorReads'. -/
def tailorReadsCard : Claim7 := { stood := { row := tailorReadsRow, standIns := [], harness := (true, "b9070fb4195affdd5f233967a652fe37495eb52eab71ef5dddce0bbacbf38b3c"), looks := true }, kinds := [], alts := [], laidByText := true, laidKinds := [.data, .data, .data, .sentinel, .sentinel], laidTests := true, laidLooks := .later }
def TailorReadsCardSaid : Prop := Claim7.holds Tryd.pinned (.plain (OpenSpec.ofChange tailorReadsSpec)) tailorReadsCard

/-- THE TIED CARD OF 'lecternlaw10.TailorRoom'. -/
def tailorRoomCard : Claim7 := { stood := { row := tailorRoomRow, standIns := [], harness := (true, "b9070fb4195affdd5f233967a652fe37495eb52eab71ef5dddce0bbacbf38b3c"), looks := true }, kinds := [], alts := [], laidByText := true, laidKinds := [.data, .data, .data, .sentinel, .sentinel], laidTests := true, laidLooks := .later }
def TailorRoomCardSaid : Prop := Claim7.holds Tryd.pinned (.plain (OpenSpec.ofChange tailorRoomSpec)) tailorRoomCard

/-- THE SECOND FORM's CARD OF 'lecternlaw10.TailorReads'. -/
def tailorReadsUptoCard : Claim7 := { stood := { row := tailorReadsUptoRow, standIns := [], harness := (true, "b9070fb4195affdd5f233967a652fe37495eb52eab71ef5dddce0bbacbf38b3c"), looks := true }, kinds := [], alts := [], laidByText := true, laidKinds := [.data, .data, .data, .sentinel, .sentinel], laidTests := true, laidLooks := .later }
def TailorReadsUptoCardSaid : Prop := Claim7.holds Tryd.pinned (.plain (OpenSpec.upto tailorReadsSpec)) tailorReadsUptoCard

/-- THE SECOND FORM's CARD OF 'lecternlaw10.TailorRoom'. -/
def tailorRoomUptoCard : Claim7 := { stood := { row := tailorRoomUptoRow, standIns := [], harness := (true, "b9070fb4195affdd5f233967a652fe37495eb52eab71ef5dddce0bbacbf38b3c"), looks := true }, kinds := [], alts := [], laidByText := true, laidKinds := [.data, .data, .data, .sentinel, .sentinel], laidTests := true, laidLooks := .later }
def TailorRoomUptoCardSaid : Prop := Claim7.holds Tryd.pinned (.plain (OpenSpec.upto tailorRoomSpec)) tailorRoomUptoCard
end Rows
end Go.Proofs.YtchjjfjjcdjjcaaDoor
