/- The order of two lists of numbers, in plain words. -/
import Derived.Test.YtchjjfjjcdjjcaaGreatDoorBase
namespace Go.Proofs.YtchjjfjjcdjjcaaGreatDoor
open Go.RowKit

def ord : List Int → List Int → Int
  | [], [] => 0
  | [], _ :: _ => -1
  | _ :: _, [] => 1
  | x :: xs, y :: ys => if x < y then -1 else if y < x then 1 else ord xs ys
theorem ord_range (xs ys : List Int) : ord xs ys = -1 ∨ ord xs ys = 0 ∨ ord xs ys = 1 := by
  induction xs generalizing ys with
  | nil => cases ys <;> simp [ord]
  | cons x xs ih =>
    cases ys with
    | nil => simp [ord]
    | cons y ys =>
      unfold ord
      by_cases h : x < y
      · rw [if_pos h]; exact .inl rfl
      · rw [if_neg h]
        by_cases h' : y < x
        · rw [if_pos h']; exact .inr (.inr rfl)
        · rw [if_neg h']; exact ih ys
theorem ord_zero {xs ys : List Int} : ord xs ys = 0 ↔ xs = ys := by
  induction xs generalizing ys with
  | nil => cases ys <;> simp [ord]
  | cons x xs ih =>
    cases ys with
    | nil => simp [ord]
    | cons y ys =>
      unfold ord
      by_cases h : x < y
      · rw [if_pos h]; simp; omega
      · rw [if_neg h]
        by_cases h' : y < x
        · rw [if_pos h']; simp; omega
        · rw [if_neg h', ih]; simp; intro _; omega
theorem ord_refl (xs : List Int) : ord xs xs = 0 := ord_zero.2 rfl
theorem ord_swap (xs ys : List Int) : ord ys xs = - ord xs ys := by
  induction xs generalizing ys with
  | nil => cases ys <;> simp [ord]
  | cons x xs ih =>
    cases ys with
    | nil => simp [ord]
    | cons y ys =>
      simp only [ord]
      have := ih ys
      by_cases h : x < y
      · have h' : ¬ y < x := by omega
        simp [h, h']
      · by_cases h' : y < x <;> simp [h, h', this]
/-- at place k -/
theorem ord_drop (xs ys : List Int) (k : Nat) (hx : k < xs.length) (hy : k < ys.length) :
    ord (xs.drop k) (ys.drop k) = if xs.getD k 0 < ys.getD k 0 then -1 else if ys.getD k 0 < xs.getD k 0 then 1 else ord (xs.drop (k + 1)) (ys.drop (k + 1)) := by
  rw [List.drop_eq_getElem_cons hx, List.drop_eq_getElem_cons hy, ord]
  simp [hx, hy]
theorem ord_end (xs ys : List Int) (k : Nat) (h : ¬ (k < xs.length ∧ k < ys.length)) (hx : k ≤ xs.length) (hy : k ≤ ys.length) :
    ord (xs.drop k) (ys.drop k) = if xs.length < ys.length then -1 else if ys.length < xs.length then 1 else 0 := by
  by_cases hxl : xs.length ≤ k
  · have e1 : xs.drop k = [] := List.drop_eq_nil_of_le hxl
    rw [e1]
    by_cases hyl : ys.length ≤ k
    · rw [List.drop_eq_nil_of_le hyl, if_neg (by omega), if_neg (by omega)]; rfl
    · rw [List.drop_eq_getElem_cons (by omega : k < ys.length), if_pos (by omega)]; rfl
  · have hyl : ys.length ≤ k := by omega
    rw [List.drop_eq_nil_of_le hyl, List.drop_eq_getElem_cons (by omega : k < xs.length), if_neg (by omega), if_pos (by omega)]; rfl
end Go.Proofs.YtchjjfjjcdjjcaaGreatDoor
