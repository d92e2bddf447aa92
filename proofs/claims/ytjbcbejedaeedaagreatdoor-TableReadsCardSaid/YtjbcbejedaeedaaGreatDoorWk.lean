/- Read of package weight. Read of package weight: the walk. -/
import Derived.Test.YtjbcbejedaeedaaGreatDoorWh
import Derived.Lib.OthersKept
/-! Read of package weight. -/
namespace Go.Proofs.YtjbcbejedaeedaaGreatDoor
open Go.RowKit
open PlainAid (bt)

def formS : ByteArray := ⟨#[91, 46, 80, 80, 80, 80, 46, 83, 83, 83, 83, 46, 84, 84, 84, 84, 93]⟩
/-- what stands in the element behind k letters -/
def pAt (s : ByteArray) (k : Nat) : Int := acc s 2 (min (k - 2) 4)
def sAt (s : ByteArray) (k : Nat) : Int := acc s 7 (min (k - 7) 4)
def tAt (s : ByteArray) (k : Nat) : Int := acc s 12 (min (k - 12) 4)
def vAt (s : ByteArray) (k : Nat) : Bool := decide (2 ≤ k) && starB s
/-- whether letter i is as it must be -/
def okAt (s : ByteArray) (i : Nat) : Bool :=
  if i = 0 then decide (bt s 0 = 91) else if i = 1 then decide (bt s 1 = 46) || decide (bt s 1 = 42)
  else if i = 6 then decide (bt s 6 = 46) else if i = 11 then decide (bt s 11 = 46) else if i = 16 then decide (bt s 16 = 93) else hvB (bt s i)
theorem okAt_good (s : ByteArray) (h : 17 ≤ s.size) : goodB s = true ↔ ∀ i, i < 17 → okAt s i = true := by
  constructor
  · intro hg i hi
    simp only [goodB, headB, digB, accB, Bool.and_eq_true] at hg
    obtain ⟨⟨_, ⟨⟨⟨h0, h1⟩, h6⟩, h11⟩, h16⟩, ⟨d2, d7⟩, d12⟩ := hg
    rw [List.all_eq_true] at d2 d7 d12
    have e2 := fun k (hk : k < 4) => d2 k (List.mem_range.2 hk)
    have e7 := fun k (hk : k < 4) => d7 k (List.mem_range.2 hk)
    have e12 := fun k (hk : k < 4) => d12 k (List.mem_range.2 hk)
    unfold okAt
    by_cases a0 : i = 0
    · rw [if_pos a0]; exact h0
    rw [if_neg a0]
    by_cases a1 : i = 1
    · rw [if_pos a1]; exact h1
    rw [if_neg a1]
    by_cases a6 : i = 6
    · rw [if_pos a6]; exact h6
    rw [if_neg a6]
    by_cases a11 : i = 11
    · rw [if_pos a11]; exact h11
    rw [if_neg a11]
    by_cases a16 : i = 16
    · rw [if_pos a16]; exact h16
    rw [if_neg a16]
    by_cases b : i < 6
    · have := e2 (i - 2) (by omega); rwa [show 2 + (i - 2) = i from by omega] at this
    · by_cases c : i < 11
      · have := e7 (i - 7) (by omega); rwa [show 7 + (i - 7) = i from by omega] at this
      · have := e12 (i - 12) (by omega); rwa [show 12 + (i - 12) = i from by omega] at this
  · intro hk
    have g : ∀ a n, (∀ i, i < n → hvB (bt s (a + i)) = true) → accB s a n = true := fun a n hh => by
      unfold accB; rw [List.all_eq_true]; intro x hx; exact hh x (List.mem_range.1 hx)
    have d : ∀ i, i < 17 → i ≠ 0 → i ≠ 1 → i ≠ 6 → i ≠ 11 → i ≠ 16 → hvB (bt s i) = true := fun i hi a b c d e => by
      have := hk i hi; unfold okAt at this; rwa [if_neg a, if_neg b, if_neg c, if_neg d, if_neg e] at this
    have h0 := hk 0 (by omega)
    have h1 := hk 1 (by omega)
    have h6 := hk 6 (by omega)
    have h11 := hk 11 (by omega)
    have h16 := hk 16 (by omega)
    simp only [goodB, headB, digB, Bool.and_eq_true]
    refine ⟨⟨decide_eq_true h, ⟨⟨⟨h0, h1⟩, h6⟩, h11⟩, h16⟩, ⟨g 2 4 fun i hi => ?_, g 7 4 fun i hi => ?_⟩, g 12 4 fun i hi => ?_⟩
    all_goals exact d _ (by omega) (by omega) (by omega) (by omega) (by omega) (by omega)
theorem okAt_bad (s : ByteArray) (i : Nat) (hi : i < 17) (h : okAt s i = false) : goodB s = false := by
  by_cases hl : 17 ≤ s.size
  · cases hg : goodB s
    · rfl
    · have := (okAt_good s hl).1 hg i hi; rw [h] at this; cases this
  · unfold goodB; rw [decide_eq_false hl]; rfl
theorem pAt_step (s : ByteArray) (k : Nat) (h0 : 2 ≤ k) (h1 : k < 6) : pAt s (k + 1) = 16 * pAt s k + hv (bt s k) := by
  unfold pAt; rw [show min (k + 1 - 2) 4 = min (k - 2) 4 + 1 from by omega]; simp only [acc]; rw [show 2 + min (k - 2) 4 = k from by omega]
theorem pAt_same (s : ByteArray) (k : Nat) (h : k < 2 ∨ 6 ≤ k) : pAt s (k + 1) = pAt s k := by
  unfold pAt; rw [show min (k + 1 - 2) 4 = min (k - 2) 4 from by omega]
theorem sAt_step (s : ByteArray) (k : Nat) (h0 : 7 ≤ k) (h1 : k < 11) : sAt s (k + 1) = 16 * sAt s k + hv (bt s k) := by
  unfold sAt; rw [show min (k + 1 - 7) 4 = min (k - 7) 4 + 1 from by omega]; simp only [acc]; rw [show 7 + min (k - 7) 4 = k from by omega]
theorem sAt_same (s : ByteArray) (k : Nat) (h : k < 7 ∨ 11 ≤ k) : sAt s (k + 1) = sAt s k := by
  unfold sAt; rw [show min (k + 1 - 7) 4 = min (k - 7) 4 from by omega]
theorem tAt_step (s : ByteArray) (k : Nat) (h0 : 12 ≤ k) (h1 : k < 16) : tAt s (k + 1) = 16 * tAt s k + hv (bt s k) := by
  unfold tAt; rw [show min (k + 1 - 12) 4 = min (k - 12) 4 + 1 from by omega]; simp only [acc]; rw [show 12 + min (k - 12) 4 = k from by omega]
theorem tAt_same (s : ByteArray) (k : Nat) (h : k < 12 ∨ 16 ≤ k) : tAt s (k + 1) = tAt s k := by
  unfold tAt; rw [show min (k + 1 - 12) 4 = min (k - 12) 4 from by omega]
theorem pow_bd (n : Nat) (h : n ≤ 4) : (16 : Int) ^ n ≤ 65536 := by
  have : n = 0 ∨ n = 1 ∨ n = 2 ∨ n = 3 ∨ n = 4 := by omega
  rcases this with rfl | rfl | rfl | rfl | rfl <;> decide
theorem acc_bd4 (s : ByteArray) (a n : Nat) (h : n ≤ 4) : 0 ≤ acc s a n ∧ acc s a n < 65536 := by
  have := acc_bd s a n; have := pow_bd n h; omega
end Go.Proofs.YtjbcbejedaeedaaGreatDoor
/-! Read of package weight: the walk. -/
namespace Go.Proofs.YtjbcbejedaeedaaGreatDoor
open Go.RowKit
open PlainAid (bt)

/-- what the loop's world holds: the iterator stands at k, the element is that behind j letters -/
structure RdAt (s : ByteArray) (w : World) (k j : Nat) (wr : World) : Prop where
  below : Below w.heap.size w wr
  size : w.heap.size + 2 < wr.heap.size
  iter : wr.heap[w.heap.size + 2]? = some (.stringIter formS k)
  r0 : wr.cell? ⟨w.heap.size, 0, none⟩ = some (.int .i64 0)
  r1 : wr.cell? ⟨w.heap.size, 1, none⟩ = some (.int .i64 0)
  r2 : wr.cell? ⟨w.heap.size, 2, none⟩ = some (.int .i64 0)
  r3 : wr.cell? ⟨w.heap.size, 3, none⟩ = some (.bool false)
  f0 : ∀ o, wr.frozen? ⟨w.heap.size, o, none⟩ = false
  e0 : wr.cell? ⟨w.heap.size + 1, 0, none⟩ = some (.int .i64 (pAt s j))
  e1 : wr.cell? ⟨w.heap.size + 1, 1, none⟩ = some (.int .i64 (sAt s j))
  e2 : wr.cell? ⟨w.heap.size + 1, 2, none⟩ = some (.int .i64 (tAt s j))
  e3 : wr.cell? ⟨w.heap.size + 1, 3, none⟩ = some (.bool (vAt s j))
  f1 : ∀ o, wr.frozen? ⟨w.heap.size + 1, o, none⟩ = false

theorem cell_of_heap {w w' : World} {b o : Nat} (h : w'.heap[b]? = w.heap[b]?) : w'.cell? ⟨b, o, none⟩ = w.cell? ⟨b, o, none⟩ := World.cell?_of_block (w := w) (w' := w') (a := ⟨b, o, none⟩) h
theorem frozen_of_heap {w w' : World} {b o : Nat} (h : w'.heap[b]? = w.heap[b]?) : w'.frozen? ⟨b, o, none⟩ = w.frozen? ⟨b, o, none⟩ := World.frozen?_of_block (w := w) (w' := w') (a := ⟨b, o, none⟩) h
theorem RdAt.next {s : ByteArray} {w wr : World} {k j : Nat} (h : RdAt s w k j wr) (p : Nat) : RdAt s w p j (wr.iterAt (w.heap.size + 2) formS p) := by
  have o0 := Lib.iterAt_other wr (w.heap.size + 2) w.heap.size formS p (by omega)
  have o1 := Lib.iterAt_other wr (w.heap.size + 2) (w.heap.size + 1) formS p (by omega)
  exact ⟨Lib.below_iterAt h.below (by omega) _ _, by rw [Lib.iterAt_size]; exact h.size, Lib.iterAt_heap _ _ _ _ _ h.iter,
    by rw [cell_of_heap o0]; exact h.r0, by rw [cell_of_heap o0]; exact h.r1, by rw [cell_of_heap o0]; exact h.r2, by rw [cell_of_heap o0]; exact h.r3, fun o => by rw [frozen_of_heap o0]; exact h.f0 o,
    by rw [cell_of_heap o1]; exact h.e0, by rw [cell_of_heap o1]; exact h.e1, by rw [cell_of_heap o1]; exact h.e2, by rw [cell_of_heap o1]; exact h.e3, fun o => by rw [frozen_of_heap o1]; exact h.f1 o⟩
theorem RdAt.up {s : ByteArray} {w wr w' : World} {k j : Nat} (h : RdAt s w k j wr) (hb : Below wr.heap.size wr w') : RdAt s w k j w' := by
  have hs := h.size
  have o0 := hb.block w.heap.size (by omega)
  have o1 := hb.block (w.heap.size + 1) (by omega)
  exact ⟨h.below.trans (hb.mono (by omega)), by have := hb.size; omega, by rw [hb.block _ hs]; exact h.iter,
    by rw [cell_of_heap o0]; exact h.r0, by rw [cell_of_heap o0]; exact h.r1, by rw [cell_of_heap o0]; exact h.r2, by rw [cell_of_heap o0]; exact h.r3, fun o => by rw [frozen_of_heap o0]; exact h.f0 o,
    by rw [cell_of_heap o1]; exact h.e0, by rw [cell_of_heap o1]; exact h.e1, by rw [cell_of_heap o1]; exact h.e2, by rw [cell_of_heap o1]; exact h.e3, fun o => by rw [frozen_of_heap o1]; exact h.f1 o⟩
theorem RdAt.same {s : ByteArray} {w wr : World} {k j i : Nat} (h : RdAt s w k j wr) (hp : pAt s i = pAt s j) (hs : sAt s i = sAt s j) (ht : tAt s i = tAt s j) (hv : vAt s i = vAt s j) : RdAt s w k i wr :=
  ⟨h.below, h.size, h.iter, h.r0, h.r1, h.r2, h.r3, h.f0, by rw [hp]; exact h.e0, by rw [hs]; exact h.e1, by rw [ht]; exact h.e2, by rw [hv]; exact h.e3, h.f1⟩
theorem RdAt.set {s : ByteArray} {w wr : World} {k j i o : Nat} (h : RdAt s w k j wr) (v : Value) (ho : o < 4)
    (hp : (if o = 0 then v else .int .i64 (pAt s j)) = .int .i64 (pAt s i)) (hs : (if o = 1 then v else .int .i64 (sAt s j)) = .int .i64 (sAt s i)) (ht : (if o = 2 then v else .int .i64 (tAt s j)) = .int .i64 (tAt s i)) (hv : (if o = 3 then v else .bool (vAt s j)) = .bool (vAt s i)) :
    RdAt s w k i (wr.setCell ⟨w.heap.size + 1, o, none⟩ v) := by
  have c : ∀ (q : Nat) (u x : Value), wr.cell? ⟨w.heap.size + 1, q, none⟩ = some u → (if o = q then v else u) = x → (wr.setCell ⟨w.heap.size + 1, o, none⟩ v).cell? ⟨w.heap.size + 1, q, none⟩ = some x := fun q u x hq hx => by
    by_cases e : o = q
    · subst e; rw [World.cell?_setCell_same _ _ _ hq, ← hx, if_pos rfl]
    · rw [World.cell?_setCell_other _ _ _ _ (by simp <;> omega), hq, ← hx, if_neg e]
  have d : ∀ (b q : Nat), b ≠ w.heap.size + 1 → (wr.setCell ⟨w.heap.size + 1, o, none⟩ v).cell? ⟨b, q, none⟩ = wr.cell? ⟨b, q, none⟩ := fun b q hq => World.cell?_setCell_other _ _ _ _ (by simp <;> omega)
  exact ⟨h.below.setCell (by simp) _, by rw [World.size_setCell]; exact h.size, by rw [Below.heap_setCell _ _ _ _ (by simp)]; exact h.iter,
    by rw [d _ _ (by omega)]; exact h.r0, by rw [d _ _ (by omega)]; exact h.r1, by rw [d _ _ (by omega)]; exact h.r2, by rw [d _ _ (by omega)]; exact h.r3, fun q => by rw [World.frozen?_setCell]; exact h.f0 q,
    c 0 _ _ h.e0 hp, c 1 _ _ h.e1 hs, c 2 _ _ h.e2 ht, c 3 _ _ h.e3 hv, fun q => by rw [World.frozen?_setCell]; exact h.f1 q⟩
def RdRel (s : ByteArray) (w : World) (k : Nat) (wr : World) : Prop := (∀ i, i < k → okAt s i = true) ∧ RdAt s w k k wr
theorem RdAt.begin (s : ByteArray) (w : World) (e : TypeId) : RdAt s w 0 0 (((w.alloc (.cells #[.int .i64 0, .int .i64 0, .int .i64 0, .bool false] e)).alloc (.cells #[.int .i64 0, .int .i64 0, .int .i64 0, .bool false] e)).iter formS 0) := by
  have hi := World.iter_heap ((w.alloc (.cells #[.int .i64 0, .int .i64 0, .int .i64 0, .bool false] e)).alloc (.cells #[.int .i64 0, .int .i64 0, .int .i64 0, .bool false] e)) formS 0
  simp only [World.size_alloc] at hi
  refine ⟨by unfold World.iter; (repeat' (first | (with_reducible exact Below.refl _ _) | (with_reducible assumption) | (with_reducible refine Below.alloc ?_ ?_ _) | (with_reducible refine Below.drew ?_) | (with_reducible refine below_drewN ?_ _) | (with_reducible refine Below.setCell ?_ ?_ _) | (with_reducible refine Below.trans ?_ (Below.mono (by assumption) ?_)) | go_size)), by unfold World.iter; simp, hi, ?_, ?_, ?_, ?_, ?_, ?_, ?_, ?_, ?_, ?_⟩
  all_goals unfold World.iter
  all_goals first | (intro o; simp [go_sem]; done) | (simp [go_sem]; done) | (simp [go_sem, pAt, sAt, tAt, acc, vAt]; done)
end Go.Proofs.YtjbcbejedaeedaaGreatDoor
