/- Rows of our own: what a slice literal holds. -/
import Derived.Test.YtlldoofclaokgaaGreatRange
namespace Go.Proofs.YtlldoofclaokgaaGreat
open Go.RowKit

theorem row_new (w : World) (l : List Value) (t : TypeId) : ∀ (j : Nat) u, l[j]? = some u → (w.alloc (.cells l.toArray t)).cell? ((⟨w.heap.size, 0, none⟩ : Addr).add j) = some u := by
  intro j u hj
  have : ((⟨w.heap.size, 0, none⟩ : Addr).add j) = ⟨w.heap.size, j, none⟩ := by
    unfold Addr.add; split
    · rename_i h; rw [h]
    · simp
  rw [this]
  unfold World.cell?
  rw [World.alloc_heap_new]
  simpa using hj
end Go.Proofs.YtlldoofclaokgaaGreat
