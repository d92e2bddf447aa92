/- Plain: putting in order moves none beyond a starter, and keeps those of one class as they follow one another. -/
import Derived.Test.YtlldoofclaokgaaGreatOa
namespace Go.Proofs.YtlldoofclaokgaaGreat
open Go.RowKit

def inCls (f : Int → Int) (k : Int) (x : Int) : Bool := (f x == k) || (f x == 0)
theorem insC_starters {f : Int → Int} (hf : ∀ r, 0 ≤ f r) {D : List Int} {x y : Int} {i : Nat} (hi : D[i]? = some y) (hy : f y = 0) : (insC f D x)[i]? = some y := by
  have hl := (List.getElem?_eq_some_iff.1 hi).1
  unfold insC
  split
  · rw [List.getElem?_append_left hl]; exact hi
  · rename_i hx
    obtain ⟨U, V, e, hV, hU, hk⟩ := ahead_split f D x
    rw [hk, e, List.take_left, List.drop_left]
    rw [e] at hi hl
    rcases Nat.lt_or_ge i U.length with h | h
    · rw [List.getElem?_append_left h] at hi ⊢; exact hi
    · exfalso
      rw [List.getElem?_append_right h] at hi
      have := hV y (List.mem_of_getElem? hi)
      have := hf x
      omega
theorem insC_new {f : Int → Int} {D : List Int} {x : Int} (hx : f x = 0) : (insC f D x)[D.length]? = some x := by
  rw [insC_zero hx, List.getElem?_append_right (Nat.le_refl _), Nat.sub_self]; rfl
theorem fold_starters {f : Int → Int} (hf : ∀ r, 0 ≤ f r) : ∀ (L D P : List Int), D.length = P.length → (∀ (i : Nat) y, P[i]? = some y → f y = 0 → D[i]? = some y) →
    ∀ (i : Nat) y, (P ++ L)[i]? = some y → f y = 0 → (L.foldl (insC f) D)[i]? = some y
  | [], D, P, _, h => fun i y hy h0 => h i y (by simpa using hy) h0
  | x :: xs, D, P, hl, h => by
    have e : P ++ x :: xs = (P ++ [x]) ++ xs := by simp
    rw [e, List.foldl_cons]
    refine fold_starters hf xs (insC f D x) (P ++ [x]) (by rw [insC_len, List.length_append]; simp [hl]) (fun i y hy h0 => ?_)
    rcases Nat.lt_or_ge i P.length with hi | hi
    · rw [List.getElem?_append_left hi] at hy
      exact insC_starters hf (h i y hy h0) h0
    · rw [List.getElem?_append_right hi] at hy
      have hi0 : i - P.length = 0 := by
        have := (List.getElem?_eq_some_iff.1 hy).1; simp at this; omega
      rw [hi0] at hy
      simp at hy
      subst hy
      obtain rfl : i = D.length := by omega
      exact insC_new h0
theorem ord_starters {f : Int → Int} (hf : ∀ r, 0 ≤ f r) {L : List Int} {i : Nat} {y : Int} (hy : L[i]? = some y) (h0 : f y = 0) : (ordL f L)[i]? = some y :=
  fold_starters hf L [] [] rfl (fun i y h => by simp at h) i y (by simpa using hy) h0
theorem insC_filter {f : Int → Int} (hf : ∀ r, 0 ≤ f r) {D : List Int} {x k : Int} : (insC f D x).filter (inCls f k) = D.filter (inCls f k) ++ [x].filter (inCls f k) := by
  unfold insC
  split
  · rw [List.filter_append]
  · rename_i hx
    obtain ⟨U, V, e, hV, hU, hk⟩ := ahead_split f D x
    rw [hk, e, List.take_left, List.drop_left]
    have hx0 := hf x
    rw [List.filter_append, List.filter_append, List.append_assoc, List.filter_cons]
    by_cases hp : inCls f k x = true
    · have hk' : f x = k := by
        unfold inCls at hp; simp at hp
        rcases hp with h | h
        · exact h
        · exact absurd h hx
      have hVn : V.filter (inCls f k) = [] := by
        rw [List.filter_eq_nil_iff]
        intro v hv hp
        have := hV v hv
        unfold inCls at hp; simp at hp
        omega
      rw [if_pos hp, hVn]
      simp [hp]
    · rw [if_neg hp]
      simp [hp]
theorem ord_filter {f : Int → Int} (hf : ∀ r, 0 ≤ f r) (L : List Int) (k : Int) : (ordL f L).filter (inCls f k) = L.filter (inCls f k) := by
  have : ∀ (L D : List Int), (L.foldl (insC f) D).filter (inCls f k) = D.filter (inCls f k) ++ L.filter (inCls f k) := by
    intro L
    induction L with
    | nil => intro D; simp
    | cons x xs ih =>
      intro D
      rw [List.foldl_cons, ih, insC_filter hf, List.append_assoc, ← List.filter_append]; rfl
  simpa [ordL] using this L []
theorem filter_take {p : Int → Bool} {L : List Int} {i : Nat} {x : Int} (hx : L[i]? = some x) : (L.take (i + 1)).filter p = if p x = true then (L.take i).filter p ++ [x] else (L.take i).filter p := by
  have : L.take (i + 1) = L.take i ++ [x] := by rw [List.take_add_one, hx]; rfl
  rw [this, List.filter_append]
  by_cases h : p x = true
  · rw [if_pos h]; simp [h]
  · rw [if_neg h]; simp [h]
end Go.Proofs.YtlldoofclaokgaaGreat
