/- An argument opened: a slice of runes in blocks that are there. -/
import Derived.Test.YtcifoallahmjbaaOpenS
namespace Go.Proofs.Ytcifoallahmjbaa
open Go.ChangeShapes Go.WideShapes Go.ChangeAt Go.RowKit Go.Joins Go.Deep

set_option maxRecDepth 100000 in
theorem runes_arg {H : Type} {enc : TypeId × Value → H} {W : World} {v : Value} {d : DataW H} {ps : List MemPlace} {r : Reach} {b0 : Nat} (hval : Value.okWide Try.prog W r b0 32 v) (hd : DataW.Trod enc Try.prog W 0 (fun _ => true) true 32 v d ps) (hw : ∀ k ∈ d.weights Try.prog 32, k ≤ reachBytes) :
    ∃ xs, IntsIn (· < W.heap.size) .i32 W v xs ∧ (∀ n ∈ xs, (Lit.int .i32 n).wf = true) ∧ xs.length * 4 ≤ 140737488351232 := by
  obtain ⟨a0, l0, cp, rfl⟩ := okWide_slice Try.underlying32 hval
  obtain ⟨fuel, hf⟩ := hd
  obtain ⟨xs, x1, x2, x3⟩ := ints_trod (y := (d, ps)) Try.underlying32 Try.underlying21 (by kernel_rfl) (by simpa [Value.cells] using hf)
  exact ⟨xs, x1, x2, slice_reach Try.underlying32 (by kernel_rfl) (x3.imp (fun h => ⟨h.1, by rw [h.2]; rfl⟩) id) hw⟩
end Go.Proofs.Ytcifoallahmjbaa
