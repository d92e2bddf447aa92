/-
  No cell of these rows narrows 'for every input' (looked for: loops, veiled, ifaces, maps, wideKeys, modest, calm, conditions, laid).
  DERIVED. THE GIVEN ROWS OF THIS SEAT. 3 by the template 'for every input the law returns true; each argument reads behind the call as it read before'; 0 by the template 'total and deterministic' (their statements: YtobblnpldphclaaTotals.lean).
  GIVEN WITH THE SEED: the statements are not yours to turn. If you find one false, say at which input.
  Laid BY PROGRAM, IN A SANDBOX (cutbox-rows.mjs): the forced cells as the released guide's own fill.sh prints them over the translation 3e7b1db7eb06a09b… (all of the seat's roots in one cut). By AI agents, Wed Nov 11 2026. No macro, syntax, notation, axiom, sorry.
-/
import Derived.Test.YtobblnpldphclaaChecked
import GoSem.Claim
import GoSem.ClaimJoined
import GoSem.ClaimMapViews
import Derived.JoinedTies
import Derived.KernelRfl
namespace Go.Proofs.Ytobblnpldphclaa
/- THE CELL 'sum', in the pinned program and in every row, IS THE sha256 OF THE DUMP (.gsa) THAT YtobblnpldphclaaProg.lean LOADS. Nothing in Lean hashes anything: it is a label: what it is worth is what the hold of that sum in a sandbox is worth. -/
noncomputable def Try.pinned : Pinned := { name := "ytobblnpldphclaa", sum := "3e7b1db7eb06a09ba62fc383f317291ca1d1185dcfe7948d28fc54298f557180", checked := Try.checked }
namespace Rows
def none {H : Type} : Left H := { results := [], args := [] }

/-- 'lecternlaw07.WeightTexts': WHATEVER THE INPUT: true; the input reads as it did. -/
def weightTextsSpec : ChangeSpec := { name := "weightTexts", fn := fun _ => fun
  | [d1, d2] => { results := [.lit (.bool true)], args := [d1, d2] }
  | _ => none }
def weightTextsRow : OpenClaim := { program := "ytobblnpldphclaa", sum := "3e7b1db7eb06a09ba62fc383f317291ca1d1185dcfe7948d28fc54298f557180", func := "lectern/lecternlaw07.WeightTexts", spec := "weightTexts", apart := false }
def WeightTextsSaid : Prop := weightTextsRow.holds Try.pinned (OpenSpec.ofChange weightTextsSpec)

/-- ITS FALSE NEIGHBOUR: 'it returns false'. Refute it at one input. -/
def weightTextsWrong : ChangeSpec := { name := "weightTexts", fn := fun _ => fun
  | [d1, d2] => { results := [.lit (.bool false)], args := [d1, d2] }
  | _ => none }
def WeightTextsWrongFalsely : Prop := weightTextsRow.holds Try.pinned (OpenSpec.ofChange weightTextsWrong)

/-- 'lecternlaw07.WeightUnified': WHATEVER THE INPUT: true; the input reads as it did. -/
def weightUnifiedSpec : ChangeSpec := { name := "weightUnified", fn := fun _ => fun
  | [d] => { results := [.lit (.bool true)], args := [d] }
  | _ => none }
def weightUnifiedRow : OpenClaim := { program := "ytobblnpldphclaa", sum := "3e7b1db7eb06a09ba62fc383f317291ca1d1185dcfe7948d28fc54298f557180", func := "lectern/lecternlaw07.WeightUnified", spec := "weightUnified", apart := false }
def WeightUnifiedSaid : Prop := weightUnifiedRow.holds Try.pinned (OpenSpec.ofChange weightUnifiedSpec)

/-- ITS FALSE NEIGHBOUR: 'it returns false'. Refute it at one input. -/
def weightUnifiedWrong : ChangeSpec := { name := "weightUnified", fn := fun _ => fun
  | [d] => { results := [.lit (.bool false)], args := [d] }
  | _ => none }
def WeightUnifiedWrongFalsely : Prop := weightUnifiedRow.holds Try.pinned (OpenSpec.ofChange weightUnifiedWrong)

/-- 'lecternlaw07.WeightChecks': WHATEVER THE INPUT: true; the input reads as it did. -/
def weightChecksSpec : ChangeSpec := { name := "weightChecks", fn := fun _ => fun
  | [d1, d2] => { results := [.lit (.bool true)], args := [d1, d2] }
  | _ => none }
def weightChecksRow : OpenClaim := { program := "ytobblnpldphclaa", sum := "3e7b1db7eb06a09ba62fc383f317291ca1d1185dcfe7948d28fc54298f557180", func := "lectern/lecternlaw07.WeightChecks", spec := "weightChecks", apart := false }
def WeightChecksSaid : Prop := weightChecksRow.holds Try.pinned (OpenSpec.ofChange weightChecksSpec)

/-- ITS FALSE NEIGHBOUR: 'it returns false'. Refute it at one input. -/
def weightChecksWrong : ChangeSpec := { name := "weightChecks", fn := fun _ => fun
  | [d1, d2] => { results := [.lit (.bool false)], args := [d1, d2] }
  | _ => none }
def WeightChecksWrongFalsely : Prop := weightChecksRow.holds Try.pinned (OpenSpec.ofChange weightChecksWrong)

/- THE SECOND FORM. 'bulk': how many values and letters a reading holds, each counted each time it is reached (what is shared counts as often as it is met; a slice's spare places count too). A statement '..UptoSaid' is the law's where the arguments, and the package variables that the reading takes, are together of bulk at most 1048576: NARROWER than '..Said'. Prove '..Said' where nothing that the law and all that it calls make is longer than what came in: it says more and counts as full. Else prove '..UptoSaid'. A law counts once. -/
mutual
def uptoBulk {H : Type} : DataW H → Nat
  | .lit (.string bytes) => bytes.length + 1
  | .lit _ => 1
  | .nil => 1
  | .ptr d => uptoBulk d + 1
  | .slice elems spare => uptoBulkAll elems + uptoBulkAll spare + 1
  | .agg parts => uptoBulkAll parts + 1
  | .iface _ d => uptoBulk d + 1
  | .map entries => uptoBulkEntries entries + 1
  | .held _ => 1
def uptoBulkAll {H : Type} : List (DataW H) → Nat
  | [] => 0
  | d :: r => uptoBulk d + uptoBulkAll r
def uptoBulkEntries {H : Type} : List (Lit × DataW H) → Nat
  | [] => 0
  | x :: r => uptoBulkEntry x + uptoBulkEntries r
def uptoBulkEntry {H : Type} : Lit × DataW H → Nat
  | (.string bytes, d) => bytes.length + uptoBulk d + 1
  | (_, d) => uptoBulk d + 1
 end
def uptoSmall : (H : Type) → List (DataW H) → Bool := fun _ ds => decide (uptoBulkAll ds ≤ 1048576)
def OpenSpec.upto (s : _root_.Go.ChangeSpec) : _root_.Go.OpenSpec := { _root_.Go.OpenSpec.ofChange s with cond := some uptoSmall }

/-- 'lecternlaw07.WeightTexts', WHERE WHAT IT READS IS OF BULK AT MOST 1048576: true; the input reads as it did. -/
def weightTextsUptoRow : OpenClaim := { program := "ytobblnpldphclaa", sum := "3e7b1db7eb06a09ba62fc383f317291ca1d1185dcfe7948d28fc54298f557180", func := "lectern/lecternlaw07.WeightTexts", spec := "weightTexts", apart := false, narrowed := true }
def WeightTextsUptoSaid : Prop := weightTextsUptoRow.holds Try.pinned (OpenSpec.upto weightTextsSpec)

/-- 'lecternlaw07.WeightUnified', WHERE WHAT IT READS IS OF BULK AT MOST 1048576: true; the input reads as it did. -/
def weightUnifiedUptoRow : OpenClaim := { program := "ytobblnpldphclaa", sum := "3e7b1db7eb06a09ba62fc383f317291ca1d1185dcfe7948d28fc54298f557180", func := "lectern/lecternlaw07.WeightUnified", spec := "weightUnified", apart := false, narrowed := true }
def WeightUnifiedUptoSaid : Prop := weightUnifiedUptoRow.holds Try.pinned (OpenSpec.upto weightUnifiedSpec)

/-- 'lecternlaw07.WeightChecks', WHERE WHAT IT READS IS OF BULK AT MOST 1048576: true; the input reads as it did. -/
def weightChecksUptoRow : OpenClaim := { program := "ytobblnpldphclaa", sum := "3e7b1db7eb06a09ba62fc383f317291ca1d1185dcfe7948d28fc54298f557180", func := "lectern/lecternlaw07.WeightChecks", spec := "weightChecks", apart := false, narrowed := true }
def WeightChecksUptoSaid : Prop := weightChecksUptoRow.holds Try.pinned (OpenSpec.upto weightChecksSpec)

end Rows
end Go.Proofs.Ytobblnpldphclaa
