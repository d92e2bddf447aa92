/- Slices of numbers that only are read: a word for what they hold, over any program. -/
import Derived.Test.YtlldoofclaokgaaGreatRange
namespace Go.Proofs.YtlldoofclaokgaaGreat
open Go.RowKit

/-- a slice of numbers of kind k that reads as xs, its memory (if it has any) from block n on -/
def IntsAt (n : Nat) (k : IntKind) (w : World) (v : Value) (xs : List Int) : Prop :=
  ∃ p cap, v = .slice p xs.length cap ∧ ∀ (i : Nat) (x : Int), xs[i]? = some x → ∃ b o, p = some ⟨b, o, none⟩ ∧ n ≤ b ∧ b < w.heap.size ∧ w.cell? ⟨b, o + i, none⟩ = some (.int k x)
theorem IntsAt.nil (n : Nat) (k : IntKind) (w : World) : IntsAt n k w (.slice none 0 0) [] := ⟨none, 0, rfl, fun i x h => by simp at h⟩
theorem IntsAt.below {n : Nat} {k : IntKind} {w w' : World} {v : Value} {xs : List Int} (h : IntsAt n k w v xs) (hb : Below w.heap.size w w') : IntsAt n k w' v xs := by
  obtain ⟨p, cap, h1, h2⟩ := h
  refine ⟨p, cap, h1, fun i x hx => ?_⟩
  obtain ⟨b, o, e1, e2, e3, e4⟩ := h2 i x hx
  exact ⟨b, o, e1, e2, Nat.lt_of_lt_of_le e3 hb.size, by rw [hb.cell (p := ⟨b, o + i, none⟩) e3]; exact e4⟩
theorem IntsAt.mono {n m : Nat} {k : IntKind} {w : World} {v : Value} {xs : List Int} (h : IntsAt n k w v xs) (hm : m ≤ n) : IntsAt m k w v xs := by
  obtain ⟨p, cap, h1, h2⟩ := h
  refine ⟨p, cap, h1, fun i x hx => ?_⟩
  obtain ⟨b, o, e1, e2, e3⟩ := h2 i x hx
  exact ⟨b, o, e1, Nat.le_trans hm e2, e3⟩
theorem IntsAt.only {n : Nat} {k : IntKind} {S : Nat → Prop} {w w' : World} {v : Value} {xs : List Int} (h : IntsAt n k w v xs) (ho : Only S w w') (hS : ∀ k, S k → k < n) : IntsAt n k w' v xs := by
  obtain ⟨p, cap, h1, h2⟩ := h
  refine ⟨p, cap, h1, fun i x hx => ?_⟩
  obtain ⟨b, o, e1, e2, e3, e4⟩ := h2 i x hx
  have := ho.block b e3 (fun hs => by have := hS b hs; omega)
  exact ⟨b, o, e1, e2, Nat.lt_of_lt_of_le e3 ho.size, by rw [World.cell?_of_block (w := w) (a := ⟨b, o + i, none⟩) this]; exact e4⟩
theorem IntsAt.at {n : Nat} {k : IntKind} {w : World} {p : Option Addr} {len cap : Nat} {xs : List Int} (h : IntsAt n k w (.slice p len cap) xs) (i : Nat) (hi : i < xs.length) :
    ∃ b o, p = some ⟨b, o, none⟩ ∧ n ≤ b ∧ b < w.heap.size ∧ w.cell? ⟨b, o + i, none⟩ = some (.int k (xs.getD i 0)) := by
  obtain ⟨p', cap', h1, h2⟩ := h
  cases h1
  have := h2 i (xs.getD i 0) (by rw [List.getD_eq_getElem?_getD, List.getElem?_eq_getElem hi]; rfl)
  exact this
/-- the address is one for all places -/
theorem IntsAt.at2 {n : Nat} {k : IntKind} {w : World} {b o : Nat} {sp : Option Nat} {len cap : Nat} {xs : List Int} (h : IntsAt n k w (.slice (some ⟨b, o, sp⟩) len cap) xs) (i : Nat) (hi : i < xs.length) :
    w.cell? ⟨b, o + i, none⟩ = some (.int k (xs.getD i 0)) := by
  obtain ⟨b', o', e, _, _, h4⟩ := h.at i hi
  cases e; exact h4
theorem ints_of_row {n : Nat} {k : IntKind} {w : World} {e : TypeId} {v : Value} {xs : List Int} (h : w.ownsRow n e 1 v xs.length (xs.map (Value.int k))) : IntsAt n k w v xs := by
  have h' := h
  rcases h.2 with ⟨rfl, h0⟩ | ⟨g, cap, cur, rfl, hg, hr, hx⟩
  · obtain rfl := List.eq_nil_of_length_eq_zero h0
    exact .nil _ _ _
  · refine ⟨some ⟨g, 0, none⟩, cap, rfl, fun i x hi => ⟨g, 0, rfl, hg, (Array.getElem?_eq_some_iff.1 hr).1, ?_⟩⟩
    have hil : i < xs.length := (List.getElem?_eq_some_iff.1 hi).1
    have hc := h'.cellAt i (by simpa using hil)
    rw [Nat.zero_add, hc, List.getElem?_map, hi]; rfl
end Go.Proofs.YtlldoofclaokgaaGreat
