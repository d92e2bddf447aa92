/- Arguments opened: elements. -/
import Derived.Test.YtchjjfjjcdjjcaaDoorOpenQ
namespace Go.Proofs.YtchjjfjjcdjjcaaDoor
open Go.ChangeShapes Go.WideShapes Go.ChangeAt Go.RowKit Go.Joins Go.Deep

theorem els_arg {H : Type} {enc : TypeId × Value → H} {P : Program} {W : World} {t e : TypeId} {g0 g1 g2 g3 : Field} {v : Value} {d : DataW H} {ps : List MemPlace} {rc : Reach} {b0 : Nat} (ht : P.underlying t = some (.slice e)) (he : P.underlying e = some (.struct #[g0, g1, g2, g3]))
    (hone : oneCellFields P #[g0, g1, g2, g3] = true) (ce : P.cellsOf e = 4) (be : P.bytesOf e = 32) (k0 : P.underlying g0.type = some (.int .i64)) (k1 : P.underlying g1.type = some (.int .i64)) (k2 : P.underlying g2.type = some (.int .i64)) (k3 : P.underlying g3.type = some .bool)
    (hval : Value.okWide P W rc b0 t v) (hd : DataW.Trod enc P W 0 (fun _ => true) true t v d ps) (hw : ∀ k ∈ d.weights P t, k ≤ reachBytes) :
    ∃ xs, ElsIn (· < W.heap.size) W v xs ∧ xs.length * 32 ≤ 140737488351232 ∧ ∀ x ∈ xs, elWf x := by
  obtain ⟨a0, l0, cp, rfl⟩ := okWide_slice ht hval
  obtain ⟨fuel, hf⟩ := hd
  obtain ⟨xs, h1, h2, h3⟩ := els_trod ht he hone ce k0 k1 k2 k3 (y := (d, ps)) (by simpa [Value.cells] using hf)
  exact ⟨xs, h1, slice_reach ht be (h3.imp (fun h => ⟨h.1, by rw [h.2]; rfl⟩) id) hw, h2⟩
set_option maxRecDepth 100000 in
theorem elements_arg {H : Type} {enc : TypeId × Value → H} {W : World} {v : Value} {d : DataW H} {ps : List MemPlace} {rc : Reach} {b0 : Nat} (hval : Value.okWide Tryd.prog W rc b0 35 v) (hd : DataW.Trod enc Tryd.prog W 0 (fun _ => true) true 35 v d ps) (hw : ∀ k ∈ d.weights Tryd.prog 35, k ≤ reachBytes) :
    ∃ xs, ElsIn (· < W.heap.size) W v xs ∧ xs.length * 32 ≤ 140737488351232 ∧ ∀ x ∈ xs, elWf x :=
  els_arg Tryd.underlying35 Tryd.underlying42 (by kernel_rfl) (by kernel_rfl) (by kernel_rfl) Tryd.underlying3 Tryd.underlying3 Tryd.underlying3 Tryd.underlying4 hval hd hw
end Go.Proofs.YtchjjfjjcdjjcaaDoor
