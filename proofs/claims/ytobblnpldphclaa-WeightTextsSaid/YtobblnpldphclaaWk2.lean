/- Read of package weight: the walk. -/
import Derived.Test.YtobblnpldphclaaWk
namespace Go.Proofs.Ytobblnpldphclaa
open Go.RowKit
open PlainAid (bt)

/-- what the loop's world holds: the iterator stands at k, the element is that behind j letters -/
structure RdAt (s : ByteArray) (w : World) (k j : Nat) (wr : World) : Prop where
  below : Below w.heap.size w wr
  size : w.heap.size + 2 < wr.heap.size
  iter : wr.heap[w.heap.size + 2]? = some (.stringIter formS k)
  r0 : wr.cell? ⟨w.heap.size, 0, none⟩ = some (.int .i64 0)
  r1 : wr.cell? ⟨w.heap.size, 1, none⟩ = some (.int .i64 0)
  r2 : wr.cell? ⟨w.heap.size, 2, none⟩ = some (.int .i64 0)
  r3 : wr.cell? ⟨w.heap.size, 3, none⟩ = some (.bool false)
  f0 : ∀ o, wr.frozen? ⟨w.heap.size, o, none⟩ = false
  e0 : wr.cell? ⟨w.heap.size + 1, 0, none⟩ = some (.int .i64 (pAt s j))
  e1 : wr.cell? ⟨w.heap.size + 1, 1, none⟩ = some (.int .i64 (sAt s j))
  e2 : wr.cell? ⟨w.heap.size + 1, 2, none⟩ = some (.int .i64 (tAt s j))
  e3 : wr.cell? ⟨w.heap.size + 1, 3, none⟩ = some (.bool (vAt s j))
  f1 : ∀ o, wr.frozen? ⟨w.heap.size + 1, o, none⟩ = false

theorem cell_of_heap {w w' : World} {b o : Nat} (h : w'.heap[b]? = w.heap[b]?) : w'.cell? ⟨b, o, none⟩ = w.cell? ⟨b, o, none⟩ := World.cell?_of_block (w := w) (w' := w') (a := ⟨b, o, none⟩) h
theorem frozen_of_heap {w w' : World} {b o : Nat} (h : w'.heap[b]? = w.heap[b]?) : w'.frozen? ⟨b, o, none⟩ = w.frozen? ⟨b, o, none⟩ := World.frozen?_of_block (w := w) (w' := w') (a := ⟨b, o, none⟩) h
theorem RdAt.next {s : ByteArray} {w wr : World} {k j : Nat} (h : RdAt s w k j wr) (p : Nat) : RdAt s w p j (wr.iterAt (w.heap.size + 2) formS p) := by
  have o0 := Lib.iterAt_other wr (w.heap.size + 2) w.heap.size formS p (by omega)
  have o1 := Lib.iterAt_other wr (w.heap.size + 2) (w.heap.size + 1) formS p (by omega)
  exact ⟨Lib.below_iterAt h.below (by omega) _ _, by rw [Lib.iterAt_size]; exact h.size, Lib.iterAt_heap _ _ _ _ _ h.iter,
    by rw [cell_of_heap o0]; exact h.r0, by rw [cell_of_heap o0]; exact h.r1, by rw [cell_of_heap o0]; exact h.r2, by rw [cell_of_heap o0]; exact h.r3, fun o => by rw [frozen_of_heap o0]; exact h.f0 o,
    by rw [cell_of_heap o1]; exact h.e0, by rw [cell_of_heap o1]; exact h.e1, by rw [cell_of_heap o1]; exact h.e2, by rw [cell_of_heap o1]; exact h.e3, fun o => by rw [frozen_of_heap o1]; exact h.f1 o⟩
theorem RdAt.up {s : ByteArray} {w wr w' : World} {k j : Nat} (h : RdAt s w k j wr) (hb : Below wr.heap.size wr w') : RdAt s w k j w' := by
  have hs := h.size
  have o0 := hb.block w.heap.size (by omega)
  have o1 := hb.block (w.heap.size + 1) (by omega)
  exact ⟨h.below.trans (hb.mono (by omega)), by have := hb.size; omega, by rw [hb.block _ hs]; exact h.iter,
    by rw [cell_of_heap o0]; exact h.r0, by rw [cell_of_heap o0]; exact h.r1, by rw [cell_of_heap o0]; exact h.r2, by rw [cell_of_heap o0]; exact h.r3, fun o => by rw [frozen_of_heap o0]; exact h.f0 o,
    by rw [cell_of_heap o1]; exact h.e0, by rw [cell_of_heap o1]; exact h.e1, by rw [cell_of_heap o1]; exact h.e2, by rw [cell_of_heap o1]; exact h.e3, fun o => by rw [frozen_of_heap o1]; exact h.f1 o⟩
theorem RdAt.same {s : ByteArray} {w wr : World} {k j i : Nat} (h : RdAt s w k j wr) (hp : pAt s i = pAt s j) (hs : sAt s i = sAt s j) (ht : tAt s i = tAt s j) (hv : vAt s i = vAt s j) : RdAt s w k i wr :=
  ⟨h.below, h.size, h.iter, h.r0, h.r1, h.r2, h.r3, h.f0, by rw [hp]; exact h.e0, by rw [hs]; exact h.e1, by rw [ht]; exact h.e2, by rw [hv]; exact h.e3, h.f1⟩
theorem RdAt.set {s : ByteArray} {w wr : World} {k j i o : Nat} (h : RdAt s w k j wr) (v : Value) (ho : o < 4)
    (hp : (if o = 0 then v else .int .i64 (pAt s j)) = .int .i64 (pAt s i)) (hs : (if o = 1 then v else .int .i64 (sAt s j)) = .int .i64 (sAt s i)) (ht : (if o = 2 then v else .int .i64 (tAt s j)) = .int .i64 (tAt s i)) (hv : (if o = 3 then v else .bool (vAt s j)) = .bool (vAt s i)) :
    RdAt s w k i (wr.setCell ⟨w.heap.size + 1, o, none⟩ v) := by
  have c : ∀ (q : Nat) (u x : Value), wr.cell? ⟨w.heap.size + 1, q, none⟩ = some u → (if o = q then v else u) = x → (wr.setCell ⟨w.heap.size + 1, o, none⟩ v).cell? ⟨w.heap.size + 1, q, none⟩ = some x := fun q u x hq hx => by
    by_cases e : o = q
    · subst e; rw [World.cell?_setCell_same _ _ _ hq, ← hx, if_pos rfl]
    · rw [World.cell?_setCell_other _ _ _ _ (by simp <;> omega), hq, ← hx, if_neg e]
  have d : ∀ (b q : Nat), b ≠ w.heap.size + 1 → (wr.setCell ⟨w.heap.size + 1, o, none⟩ v).cell? ⟨b, q, none⟩ = wr.cell? ⟨b, q, none⟩ := fun b q hq => World.cell?_setCell_other _ _ _ _ (by simp <;> omega)
  exact ⟨h.below.setCell (by simp) _, by rw [World.size_setCell]; exact h.size, by rw [Below.heap_setCell _ _ _ _ (by simp)]; exact h.iter,
    by rw [d _ _ (by omega)]; exact h.r0, by rw [d _ _ (by omega)]; exact h.r1, by rw [d _ _ (by omega)]; exact h.r2, by rw [d _ _ (by omega)]; exact h.r3, fun q => by rw [World.frozen?_setCell]; exact h.f0 q,
    c 0 _ _ h.e0 hp, c 1 _ _ h.e1 hs, c 2 _ _ h.e2 ht, c 3 _ _ h.e3 hv, fun q => by rw [World.frozen?_setCell]; exact h.f1 q⟩
def RdRel (s : ByteArray) (w : World) (k : Nat) (wr : World) : Prop := (∀ i, i < k → okAt s i = true) ∧ RdAt s w k k wr
theorem RdAt.begin (s : ByteArray) (w : World) (e : TypeId) : RdAt s w 0 0 (((w.alloc (.cells #[.int .i64 0, .int .i64 0, .int .i64 0, .bool false] e)).alloc (.cells #[.int .i64 0, .int .i64 0, .int .i64 0, .bool false] e)).iter formS 0) := by
  have hi := World.iter_heap ((w.alloc (.cells #[.int .i64 0, .int .i64 0, .int .i64 0, .bool false] e)).alloc (.cells #[.int .i64 0, .int .i64 0, .int .i64 0, .bool false] e)) formS 0
  simp only [World.size_alloc] at hi
  refine ⟨by unfold World.iter; (repeat' (first | (with_reducible exact Below.refl _ _) | (with_reducible assumption) | (with_reducible refine Below.alloc ?_ ?_ _) | (with_reducible refine Below.drew ?_) | (with_reducible refine below_drewN ?_ _) | (with_reducible refine Below.setCell ?_ ?_ _) | (with_reducible refine Below.trans ?_ (Below.mono (by assumption) ?_)) | go_size)), by unfold World.iter; simp, hi, ?_, ?_, ?_, ?_, ?_, ?_, ?_, ?_, ?_, ?_⟩
  all_goals unfold World.iter
  all_goals first | (intro o; simp [go_sem]; done) | (simp [go_sem]; done) | (simp [go_sem, pAt, sAt, tAt, acc, vAt]; done)
end Go.Proofs.Ytobblnpldphclaa
