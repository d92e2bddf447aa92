/- Read of package weight. -/
import Derived.Test.YtobblnpldphclaaWh
import Derived.Lib.OthersKept
namespace Go.Proofs.Ytobblnpldphclaa
open Go.RowKit
open PlainAid (bt)

def formS : ByteArray := ⟨#[91, 46, 80, 80, 80, 80, 46, 83, 83, 83, 83, 46, 84, 84, 84, 84, 93]⟩
/-- what stands in the element behind k letters -/
def pAt (s : ByteArray) (k : Nat) : Int := acc s 2 (min (k - 2) 4)
def sAt (s : ByteArray) (k : Nat) : Int := acc s 7 (min (k - 7) 4)
def tAt (s : ByteArray) (k : Nat) : Int := acc s 12 (min (k - 12) 4)
def vAt (s : ByteArray) (k : Nat) : Bool := decide (2 ≤ k) && starB s
/-- whether letter i is as it must be -/
def okAt (s : ByteArray) (i : Nat) : Bool :=
  if i = 0 then decide (bt s 0 = 91) else if i = 1 then decide (bt s 1 = 46) || decide (bt s 1 = 42)
  else if i = 6 then decide (bt s 6 = 46) else if i = 11 then decide (bt s 11 = 46) else if i = 16 then decide (bt s 16 = 93) else hvB (bt s i)
theorem okAt_good (s : ByteArray) (h : 17 ≤ s.size) : goodB s = true ↔ ∀ i, i < 17 → okAt s i = true := by
  constructor
  · intro hg i hi
    simp only [goodB, headB, digB, accB, Bool.and_eq_true] at hg
    obtain ⟨⟨_, ⟨⟨⟨h0, h1⟩, h6⟩, h11⟩, h16⟩, ⟨d2, d7⟩, d12⟩ := hg
    rw [List.all_eq_true] at d2 d7 d12
    have e2 := fun k (hk : k < 4) => d2 k (List.mem_range.2 hk)
    have e7 := fun k (hk : k < 4) => d7 k (List.mem_range.2 hk)
    have e12 := fun k (hk : k < 4) => d12 k (List.mem_range.2 hk)
    unfold okAt
    by_cases a0 : i = 0
    · rw [if_pos a0]; exact h0
    rw [if_neg a0]
    by_cases a1 : i = 1
    · rw [if_pos a1]; exact h1
    rw [if_neg a1]
    by_cases a6 : i = 6
    · rw [if_pos a6]; exact h6
    rw [if_neg a6]
    by_cases a11 : i = 11
    · rw [if_pos a11]; exact h11
    rw [if_neg a11]
    by_cases a16 : i = 16
    · rw [if_pos a16]; exact h16
    rw [if_neg a16]
    by_cases b : i < 6
    · have := e2 (i - 2) (by omega); rwa [show 2 + (i - 2) = i from by omega] at this
    · by_cases c : i < 11
      · have := e7 (i - 7) (by omega); rwa [show 7 + (i - 7) = i from by omega] at this
      · have := e12 (i - 12) (by omega); rwa [show 12 + (i - 12) = i from by omega] at this
  · intro hk
    have g : ∀ a n, (∀ i, i < n → hvB (bt s (a + i)) = true) → accB s a n = true := fun a n hh => by
      unfold accB; rw [List.all_eq_true]; intro x hx; exact hh x (List.mem_range.1 hx)
    have d : ∀ i, i < 17 → i ≠ 0 → i ≠ 1 → i ≠ 6 → i ≠ 11 → i ≠ 16 → hvB (bt s i) = true := fun i hi a b c d e => by
      have := hk i hi; unfold okAt at this; rwa [if_neg a, if_neg b, if_neg c, if_neg d, if_neg e] at this
    have h0 := hk 0 (by omega)
    have h1 := hk 1 (by omega)
    have h6 := hk 6 (by omega)
    have h11 := hk 11 (by omega)
    have h16 := hk 16 (by omega)
    simp only [goodB, headB, digB, Bool.and_eq_true]
    refine ⟨⟨decide_eq_true h, ⟨⟨⟨h0, h1⟩, h6⟩, h11⟩, h16⟩, ⟨g 2 4 fun i hi => ?_, g 7 4 fun i hi => ?_⟩, g 12 4 fun i hi => ?_⟩
    all_goals exact d _ (by omega) (by omega) (by omega) (by omega) (by omega) (by omega)
theorem okAt_bad (s : ByteArray) (i : Nat) (hi : i < 17) (h : okAt s i = false) : goodB s = false := by
  by_cases hl : 17 ≤ s.size
  · cases hg : goodB s
    · rfl
    · have := (okAt_good s hl).1 hg i hi; rw [h] at this; cases this
  · unfold goodB; rw [decide_eq_false hl]; rfl
theorem pAt_step (s : ByteArray) (k : Nat) (h0 : 2 ≤ k) (h1 : k < 6) : pAt s (k + 1) = 16 * pAt s k + hv (bt s k) := by
  unfold pAt; rw [show min (k + 1 - 2) 4 = min (k - 2) 4 + 1 from by omega]; simp only [acc]; rw [show 2 + min (k - 2) 4 = k from by omega]
theorem pAt_same (s : ByteArray) (k : Nat) (h : k < 2 ∨ 6 ≤ k) : pAt s (k + 1) = pAt s k := by
  unfold pAt; rw [show min (k + 1 - 2) 4 = min (k - 2) 4 from by omega]
theorem sAt_step (s : ByteArray) (k : Nat) (h0 : 7 ≤ k) (h1 : k < 11) : sAt s (k + 1) = 16 * sAt s k + hv (bt s k) := by
  unfold sAt; rw [show min (k + 1 - 7) 4 = min (k - 7) 4 + 1 from by omega]; simp only [acc]; rw [show 7 + min (k - 7) 4 = k from by omega]
theorem sAt_same (s : ByteArray) (k : Nat) (h : k < 7 ∨ 11 ≤ k) : sAt s (k + 1) = sAt s k := by
  unfold sAt; rw [show min (k + 1 - 7) 4 = min (k - 7) 4 from by omega]
theorem tAt_step (s : ByteArray) (k : Nat) (h0 : 12 ≤ k) (h1 : k < 16) : tAt s (k + 1) = 16 * tAt s k + hv (bt s k) := by
  unfold tAt; rw [show min (k + 1 - 12) 4 = min (k - 12) 4 + 1 from by omega]; simp only [acc]; rw [show 12 + min (k - 12) 4 = k from by omega]
theorem tAt_same (s : ByteArray) (k : Nat) (h : k < 12 ∨ 16 ≤ k) : tAt s (k + 1) = tAt s k := by
  unfold tAt; rw [show min (k + 1 - 12) 4 = min (k - 12) 4 from by omega]
theorem pow_bd (n : Nat) (h : n ≤ 4) : (16 : Int) ^ n ≤ 65536 := by
  have : n = 0 ∨ n = 1 ∨ n = 2 ∨ n = 3 ∨ n = 4 := by omega
  rcases this with rfl | rfl | rfl | rfl | rfl <;> decide
theorem acc_bd4 (s : ByteArray) (a n : Nat) (h : n ≤ 4) : 0 ≤ acc s a n ∧ acc s a n < 65536 := by
  have := acc_bd s a n; have := pow_bd n h; omega
end Go.Proofs.Ytobblnpldphclaa
