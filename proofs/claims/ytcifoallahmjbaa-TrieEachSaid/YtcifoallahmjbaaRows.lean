/-
  No cell of these rows narrows 'for every input' (looked for: loops, veiled, ifaces, maps, wideKeys, modest, calm, conditions, laid).
  DERIVED. THE GIVEN ROWS OF THIS SEAT. 4 by the template 'for every input the law returns true; each argument reads behind the call as it read before'; 0 by the template 'total and deterministic' (their statements: YtcifoallahmjbaaTotals.lean).
  GIVEN WITH THE SEED: the statements are not yours to turn. If you find one false, say at which input.
  Laid BY PROGRAM, IN A SANDBOX (cutbox-rows.mjs): the forced cells as the released guide's own fill.sh prints them over the translation e6bb716cd8a4b3ef… (all of the seat's roots in one cut). By AI agents, Wed Nov 11 2026. No macro, syntax, notation, axiom, sorry.
-/
import Derived.Test.YtcifoallahmjbaaChecked
import GoSem.Claim
import GoSem.ClaimJoined
import GoSem.ClaimMapViews
import Derived.JoinedTies
import Derived.KernelRfl
namespace Go.Proofs.Ytcifoallahmjbaa
/- THE CELL 'sum', in the pinned program and in every row, IS THE sha256 OF THE DUMP (.gsa) THAT YtcifoallahmjbaaProg.lean LOADS. Nothing in Lean hashes anything: it is a label: what it is worth is what the hold of that sum in a sandbox is worth. -/
noncomputable def Try.pinned : Pinned := { name := "ytcifoallahmjbaa", sum := "e6bb716cd8a4b3ef96ab9b2c905a95d34315561aaf50696c68adc0e1c1140b16", checked := Try.checked }
namespace Rows
def none {H : Type} : Left H := { results := [], args := [] }

/-- 'lecternlaw09.TrieMakes': WHATEVER THE INPUT: true; the input reads as it did. -/
def trieMakesSpec : ChangeSpec := { name := "trieMakes", fn := fun _ => fun
  | [d] => { results := [.lit (.bool true)], args := [d] }
  | _ => none }
def trieMakesRow : OpenClaim := { program := "ytcifoallahmjbaa", sum := "e6bb716cd8a4b3ef96ab9b2c905a95d34315561aaf50696c68adc0e1c1140b16", func := "lectern/lecternlaw09.TrieMakes", spec := "trieMakes", inPlace := ["sync/atomic.AddInt64", "sync/atomic.LoadInt64"], unfollowed := true, recurses := true, apart := false }
def TrieMakesSaid : Prop := trieMakesRow.holds Try.pinned (OpenSpec.ofChange trieMakesSpec)

/-- ITS FALSE NEIGHBOUR: 'it returns false'. Refute it at one input. -/
def trieMakesWrong : ChangeSpec := { name := "trieMakes", fn := fun _ => fun
  | [d] => { results := [.lit (.bool false)], args := [d] }
  | _ => none }
def TrieMakesWrongFalsely : Prop := trieMakesRow.holds Try.pinned (OpenSpec.ofChange trieMakesWrong)

/-- 'lecternlaw09.TrieFinds': WHATEVER THE INPUT: true; the input reads as it did. -/
def trieFindsSpec : ChangeSpec := { name := "trieFinds", fn := fun _ => fun
  | [d1, d2] => { results := [.lit (.bool true)], args := [d1, d2] }
  | _ => none }
def trieFindsRow : OpenClaim := { program := "ytcifoallahmjbaa", sum := "e6bb716cd8a4b3ef96ab9b2c905a95d34315561aaf50696c68adc0e1c1140b16", func := "lectern/lecternlaw09.TrieFinds", spec := "trieFinds", inPlace := ["sync/atomic.AddInt64", "sync/atomic.LoadInt64"], unfollowed := true, recurses := true, apart := false }
def TrieFindsSaid : Prop := trieFindsRow.holds Try.pinned (OpenSpec.ofChange trieFindsSpec)

/-- ITS FALSE NEIGHBOUR: 'it returns false'. Refute it at one input. -/
def trieFindsWrong : ChangeSpec := { name := "trieFinds", fn := fun _ => fun
  | [d1, d2] => { results := [.lit (.bool false)], args := [d1, d2] }
  | _ => none }
def TrieFindsWrongFalsely : Prop := trieFindsRow.holds Try.pinned (OpenSpec.ofChange trieFindsWrong)

/-- 'lecternlaw09.TrieEach': WHATEVER THE INPUT: true; the input reads as it did. -/
def trieEachSpec : ChangeSpec := { name := "trieEach", fn := fun _ => fun
  | [d1, d2] => { results := [.lit (.bool true)], args := [d1, d2] }
  | _ => none }
def trieEachRow : OpenClaim := { program := "ytcifoallahmjbaa", sum := "e6bb716cd8a4b3ef96ab9b2c905a95d34315561aaf50696c68adc0e1c1140b16", func := "lectern/lecternlaw09.TrieEach", spec := "trieEach", inPlace := ["sync/atomic.AddInt64", "sync/atomic.LoadInt64"], unfollowed := true, recurses := true, apart := false }
def TrieEachSaid : Prop := trieEachRow.holds Try.pinned (OpenSpec.ofChange trieEachSpec)

/-- ITS FALSE NEIGHBOUR: 'it returns false'. Refute it at one input. -/
def trieEachWrong : ChangeSpec := { name := "trieEach", fn := fun _ => fun
  | [d1, d2] => { results := [.lit (.bool false)], args := [d1, d2] }
  | _ => none }
def TrieEachWrongFalsely : Prop := trieEachRow.holds Try.pinned (OpenSpec.ofChange trieEachWrong)

/-- 'lecternlaw09.TrieNone': WHATEVER THE INPUT: true; the input reads as it did. -/
def trieNoneSpec : ChangeSpec := { name := "trieNone", fn := fun _ => fun
  | [d] => { results := [.lit (.bool true)], args := [d] }
  | _ => none }
def trieNoneRow : OpenClaim := { program := "ytcifoallahmjbaa", sum := "e6bb716cd8a4b3ef96ab9b2c905a95d34315561aaf50696c68adc0e1c1140b16", func := "lectern/lecternlaw09.TrieNone", spec := "trieNone", inPlace := ["sync/atomic.AddInt64", "sync/atomic.LoadInt64"], unfollowed := true, recurses := true, apart := false }
def TrieNoneSaid : Prop := trieNoneRow.holds Try.pinned (OpenSpec.ofChange trieNoneSpec)

/-- ITS FALSE NEIGHBOUR: 'it returns false'. Refute it at one input. -/
def trieNoneWrong : ChangeSpec := { name := "trieNone", fn := fun _ => fun
  | [d] => { results := [.lit (.bool false)], args := [d] }
  | _ => none }
def TrieNoneWrongFalsely : Prop := trieNoneRow.holds Try.pinned (OpenSpec.ofChange trieNoneWrong)

/- THE SECOND FORM. 'bulk': how many values and letters a reading holds, each counted each time it is reached (what is shared counts as often as it is met; a slice's spare places count too). A statement '..UptoSaid' is the law's where the arguments, and the package variables that the reading takes, are together of bulk at most 1048576: NARROWER than '..Said'. Prove '..Said' where nothing that the law and all that it calls make is longer than what came in: it says more and counts as full. Else prove '..UptoSaid'. A law counts once. -/
mutual
def uptoBulk {H : Type} : DataW H → Nat
  | .lit (.string bytes) => bytes.length + 1
  | .lit _ => 1
  | .nil => 1
  | .ptr d => uptoBulk d + 1
  | .slice elems spare => uptoBulkAll elems + uptoBulkAll spare + 1
  | .agg parts => uptoBulkAll parts + 1
  | .iface _ d => uptoBulk d + 1
  | .map entries => uptoBulkEntries entries + 1
  | .held _ => 1
def uptoBulkAll {H : Type} : List (DataW H) → Nat
  | [] => 0
  | d :: r => uptoBulk d + uptoBulkAll r
def uptoBulkEntries {H : Type} : List (Lit × DataW H) → Nat
  | [] => 0
  | x :: r => uptoBulkEntry x + uptoBulkEntries r
def uptoBulkEntry {H : Type} : Lit × DataW H → Nat
  | (.string bytes, d) => bytes.length + uptoBulk d + 1
  | (_, d) => uptoBulk d + 1
 end
def uptoSmall : (H : Type) → List (DataW H) → Bool := fun _ ds => decide (uptoBulkAll ds ≤ 1048576)
def OpenSpec.upto (s : _root_.Go.ChangeSpec) : _root_.Go.OpenSpec := { _root_.Go.OpenSpec.ofChange s with cond := some uptoSmall }

/-- 'lecternlaw09.TrieMakes', WHERE WHAT IT READS IS OF BULK AT MOST 1048576: true; the input reads as it did. -/
def trieMakesUptoRow : OpenClaim := { program := "ytcifoallahmjbaa", sum := "e6bb716cd8a4b3ef96ab9b2c905a95d34315561aaf50696c68adc0e1c1140b16", func := "lectern/lecternlaw09.TrieMakes", spec := "trieMakes", inPlace := ["sync/atomic.AddInt64", "sync/atomic.LoadInt64"], unfollowed := true, recurses := true, apart := false, narrowed := true }
def TrieMakesUptoSaid : Prop := trieMakesUptoRow.holds Try.pinned (OpenSpec.upto trieMakesSpec)

/-- 'lecternlaw09.TrieFinds', WHERE WHAT IT READS IS OF BULK AT MOST 1048576: true; the input reads as it did. -/
def trieFindsUptoRow : OpenClaim := { program := "ytcifoallahmjbaa", sum := "e6bb716cd8a4b3ef96ab9b2c905a95d34315561aaf50696c68adc0e1c1140b16", func := "lectern/lecternlaw09.TrieFinds", spec := "trieFinds", inPlace := ["sync/atomic.AddInt64", "sync/atomic.LoadInt64"], unfollowed := true, recurses := true, apart := false, narrowed := true }
def TrieFindsUptoSaid : Prop := trieFindsUptoRow.holds Try.pinned (OpenSpec.upto trieFindsSpec)

/-- 'lecternlaw09.TrieEach', WHERE WHAT IT READS IS OF BULK AT MOST 1048576: true; the input reads as it did. -/
def trieEachUptoRow : OpenClaim := { program := "ytcifoallahmjbaa", sum := "e6bb716cd8a4b3ef96ab9b2c905a95d34315561aaf50696c68adc0e1c1140b16", func := "lectern/lecternlaw09.TrieEach", spec := "trieEach", inPlace := ["sync/atomic.AddInt64", "sync/atomic.LoadInt64"], unfollowed := true, recurses := true, apart := false, narrowed := true }
def TrieEachUptoSaid : Prop := trieEachUptoRow.holds Try.pinned (OpenSpec.upto trieEachSpec)

/-- 'lecternlaw09.TrieNone', WHERE WHAT IT READS IS OF BULK AT MOST 1048576: true; the input reads as it did. -/
def trieNoneUptoRow : OpenClaim := { program := "ytcifoallahmjbaa", sum := "e6bb716cd8a4b3ef96ab9b2c905a95d34315561aaf50696c68adc0e1c1140b16", func := "lectern/lecternlaw09.TrieNone", spec := "trieNone", inPlace := ["sync/atomic.AddInt64", "sync/atomic.LoadInt64"], unfollowed := true, recurses := true, apart := false, narrowed := true }
def TrieNoneUptoSaid : Prop := trieNoneUptoRow.holds Try.pinned (OpenSpec.upto trieNoneSpec)

end Rows
end Go.Proofs.Ytcifoallahmjbaa
