/- UTF-8 in plain words: which scalar's form stands at a place of a text. -/
import Derived.Test.YtcifoallahmjbaaBase
namespace Go.Proofs.Ytcifoallahmjbaa
open Go.RowKit
open PlainAid (bt)

/-- a scalar -/
def sc (r : Int) : Bool := decide (0 ≤ r ∧ r < 55296) || decide (57343 < r ∧ r ≤ 1114111)
/-- how long its form is -/
def lg (r : Int) : Nat := if r < 128 then 1 else if r < 2048 then 2 else if r < 65536 then 3 else 4
/-- a byte that goes on -/
def co (c : Int) : Bool := decide (128 ≤ c ∧ c < 192)
/-- its form -/
def enc (r : Int) : List Int :=
  if r < 128 then [r] else if r < 2048 then [192 + r / 64, 128 + r % 64] else if r < 65536 then [224 + r / 4096, 128 + r / 64 % 64, 128 + r % 64]
  else [240 + r / 262144, 128 + r / 4096 % 64, 128 + r / 64 % 64, 128 + r % 64]
/-- what the bytes at a place come to, as a form of two, three, four bytes -/
def r2 (s : ByteArray) (a : Nat) : Int := bt s a % 32 * 64 + bt s (a + 1) % 64
def r3 (s : ByteArray) (a : Nat) : Int := (bt s a % 16 * 64 + bt s (a + 1) % 64) * 64 + bt s (a + 2) % 64
def r4 (s : ByteArray) (a : Nat) : Int := ((bt s a % 8 * 64 + bt s (a + 1) % 64) * 64 + bt s (a + 2) % 64) * 64 + bt s (a + 3) % 64
def is1 (s : ByteArray) (a : Nat) : Bool := decide (a < s.size) && decide (bt s a < 128)
def is2 (s : ByteArray) (a : Nat) : Bool := decide (a + 2 ≤ s.size) && decide (192 ≤ bt s a ∧ bt s a < 224) && co (bt s (a + 1)) && sc (r2 s a) && decide (lg (r2 s a) = 2)
def is3 (s : ByteArray) (a : Nat) : Bool := decide (a + 3 ≤ s.size) && decide (224 ≤ bt s a ∧ bt s a < 240) && co (bt s (a + 1)) && co (bt s (a + 2)) && sc (r3 s a) && decide (lg (r3 s a) = 3)
def is4 (s : ByteArray) (a : Nat) : Bool := decide (a + 4 ≤ s.size) && decide (240 ≤ bt s a ∧ bt s a < 248) && co (bt s (a + 1)) && co (bt s (a + 2)) && co (bt s (a + 3)) && sc (r4 s a) && decide (lg (r4 s a) = 4)
/-- the scalar, and the length of its form; 0: none -/
def fmR (s : ByteArray) (a : Nat) : Int := if is1 s a then bt s a else if is2 s a then r2 s a else if is3 s a then r3 s a else if is4 s a then r4 s a else 0
def fmN (s : ByteArray) (a : Nat) : Nat := if is1 s a then 1 else if is2 s a then 2 else if is3 s a then 3 else if is4 s a then 4 else 0

theorem fmN_le (s : ByteArray) (a : Nat) : fmN s a ≤ 4 := by unfold fmN; repeat' split <;> try omega
theorem fmN_size (s : ByteArray) (a : Nat) (h : fmN s a ≠ 0) : a + fmN s a ≤ s.size := by
  unfold fmN at h ⊢
  by_cases h1 : is1 s a = true
  · rw [if_pos h1]; simp [is1] at h1; omega
  rw [if_neg h1] at h ⊢
  by_cases h2 : is2 s a = true
  · rw [if_pos h2]; simp [is2] at h2; omega
  rw [if_neg h2] at h ⊢
  by_cases h3 : is3 s a = true
  · rw [if_pos h3]; simp [is3] at h3; omega
  rw [if_neg h3] at h ⊢
  by_cases h4 : is4 s a = true
  · rw [if_pos h4]; simp [is4] at h4; omega
  rw [if_neg h4] at h; exact absurd rfl h
theorem bt_extract (s : ByteArray) (lo hi k : Nat) (hh : hi ≤ s.size) (h : lo + k < hi) : bt (s.extract lo hi) k = bt s (lo + k) := by
  unfold bt
  rw [dif_pos (by rw [ByteArray.size_extract]; omega), dif_pos (by omega)]
  rw [ByteArray.getElem_extract]
theorem size_extract' (s : ByteArray) (lo hi : Nat) (hh : hi ≤ s.size) (hl : lo ≤ hi) : (s.extract lo hi).size = hi - lo := by
  rw [ByteArray.size_extract]; omega
theorem is1_piece (s : ByteArray) (lo hi : Nat) (hh : hi ≤ s.size) (hl : lo ≤ hi) : is1 (s.extract lo hi) 0 = (is1 s lo && decide (lo + 1 ≤ hi)) := by
  by_cases h : lo + 1 ≤ hi
  · rw [decide_eq_true h, Bool.and_true]
    unfold is1
    rw [size_extract' s lo hi hh hl]
    
    rw [bt_extract s lo hi 0 hh (by omega)]
    rw [decide_eq_true (show 0 < hi - lo by omega), decide_eq_true (show lo < s.size by omega)]; rfl
  · rw [decide_eq_false h, Bool.and_false]
    unfold is1
    rw [size_extract' s lo hi hh hl, decide_eq_false (by omega)]
    simp
theorem is2_piece (s : ByteArray) (lo hi : Nat) (hh : hi ≤ s.size) (hl : lo ≤ hi) : is2 (s.extract lo hi) 0 = (is2 s lo && decide (lo + 2 ≤ hi)) := by
  by_cases h : lo + 2 ≤ hi
  · rw [decide_eq_true h, Bool.and_true]
    unfold is2 r2
    rw [size_extract' s lo hi hh hl]
    simp only [Nat.zero_add]
    rw [bt_extract s lo hi 0 hh (by omega), bt_extract s lo hi 1 hh (by omega)]
    rw [decide_eq_true (show 2 ≤ hi - lo by omega), decide_eq_true (show lo + 2 ≤ s.size by omega)]; rfl
  · rw [decide_eq_false h, Bool.and_false]
    unfold is2
    rw [size_extract' s lo hi hh hl, decide_eq_false (by omega)]
    simp
theorem is3_piece (s : ByteArray) (lo hi : Nat) (hh : hi ≤ s.size) (hl : lo ≤ hi) : is3 (s.extract lo hi) 0 = (is3 s lo && decide (lo + 3 ≤ hi)) := by
  by_cases h : lo + 3 ≤ hi
  · rw [decide_eq_true h, Bool.and_true]
    unfold is3 r3
    rw [size_extract' s lo hi hh hl]
    simp only [Nat.zero_add]
    rw [bt_extract s lo hi 0 hh (by omega), bt_extract s lo hi 1 hh (by omega), bt_extract s lo hi 2 hh (by omega)]
    rw [decide_eq_true (show 3 ≤ hi - lo by omega), decide_eq_true (show lo + 3 ≤ s.size by omega)]; rfl
  · rw [decide_eq_false h, Bool.and_false]
    unfold is3
    rw [size_extract' s lo hi hh hl, decide_eq_false (by omega)]
    simp
theorem is4_piece (s : ByteArray) (lo hi : Nat) (hh : hi ≤ s.size) (hl : lo ≤ hi) : is4 (s.extract lo hi) 0 = (is4 s lo && decide (lo + 4 ≤ hi)) := by
  by_cases h : lo + 4 ≤ hi
  · rw [decide_eq_true h, Bool.and_true]
    unfold is4 r4
    rw [size_extract' s lo hi hh hl]
    simp only [Nat.zero_add]
    rw [bt_extract s lo hi 0 hh (by omega), bt_extract s lo hi 1 hh (by omega), bt_extract s lo hi 2 hh (by omega), bt_extract s lo hi 3 hh (by omega)]
    rw [decide_eq_true (show 4 ≤ hi - lo by omega), decide_eq_true (show lo + 4 ≤ s.size by omega)]; rfl
  · rw [decide_eq_false h, Bool.and_false]
    unfold is4
    rw [size_extract' s lo hi hh hl, decide_eq_false (by omega)]
    simp
theorem r2_piece (s : ByteArray) (lo hi : Nat) (hh : hi ≤ s.size) (h : lo + 2 ≤ hi) : r2 (s.extract lo hi) 0 = r2 s lo := by
  unfold r2
  simp only [Nat.zero_add]
  rw [bt_extract s lo hi 0 hh (by omega), bt_extract s lo hi 1 hh (by omega)]
  rfl
theorem r3_piece (s : ByteArray) (lo hi : Nat) (hh : hi ≤ s.size) (h : lo + 3 ≤ hi) : r3 (s.extract lo hi) 0 = r3 s lo := by
  unfold r3
  simp only [Nat.zero_add]
  rw [bt_extract s lo hi 0 hh (by omega), bt_extract s lo hi 1 hh (by omega), bt_extract s lo hi 2 hh (by omega)]
  rfl
theorem r4_piece (s : ByteArray) (lo hi : Nat) (hh : hi ≤ s.size) (h : lo + 4 ≤ hi) : r4 (s.extract lo hi) 0 = r4 s lo := by
  unfold r4
  simp only [Nat.zero_add]
  rw [bt_extract s lo hi 0 hh (by omega), bt_extract s lo hi 1 hh (by omega), bt_extract s lo hi 2 hh (by omega), bt_extract s lo hi 3 hh (by omega)]
  rfl
theorem is_first (s : ByteArray) (a : Nat) : (is1 s a = true → bt s a < 128) ∧ (is2 s a = true → 192 ≤ bt s a ∧ bt s a < 224) ∧ (is3 s a = true → 224 ≤ bt s a ∧ bt s a < 240) ∧ (is4 s a = true → 240 ≤ bt s a ∧ bt s a < 248) := by
  refine ⟨fun h => ?_, fun h => ?_, fun h => ?_, fun h => ?_⟩
  · simp only [is1, Bool.and_eq_true, decide_eq_true_eq] at h; exact h.2
  · simp only [is2, Bool.and_eq_true, decide_eq_true_eq] at h; exact h.1.1.1.2
  · simp only [is3, Bool.and_eq_true, decide_eq_true_eq] at h; exact h.1.1.1.1.2
  · simp only [is4, Bool.and_eq_true, decide_eq_true_eq] at h; exact h.1.1.1.1.1.2
/-- a piece of a text: what stands at its head is what stands there in the text, if it lies within the piece -/
theorem fm_piece (s : ByteArray) (lo hi : Nat) (hh : hi ≤ s.size) (hl : lo ≤ hi) :
    (lo + fmN s lo ≤ hi → fmR (s.extract lo hi) 0 = fmR s lo ∧ fmN (s.extract lo hi) 0 = fmN s lo) ∧ (¬ lo + fmN s lo ≤ hi → fmR (s.extract lo hi) 0 = 0 ∧ fmN (s.extract lo hi) 0 = 0) := by
  obtain ⟨f1, f2, f3, f4⟩ := is_first s lo
  unfold fmR fmN
  rw [is1_piece s lo hi hh hl, is2_piece s lo hi hh hl, is3_piece s lo hi hh hl, is4_piece s lo hi hh hl]
  cases h1 : is1 s lo
  · cases h2 : is2 s lo
    · cases h3 : is3 s lo
      · cases h4 : is4 s lo
        · simp
        · refine ⟨fun h => ?_, fun h => ?_⟩
          · simp only [Bool.false_eq_true, if_false, if_true, Bool.false_and, Bool.true_and] at h ⊢
            rw [if_pos (decide_eq_true h), if_pos (decide_eq_true h), r4_piece s lo hi hh h]; exact ⟨rfl, rfl⟩
          · simp only [Bool.false_eq_true, if_false, if_true, Bool.false_and, Bool.true_and] at h ⊢
            rw [decide_eq_false h]; exact ⟨rfl, rfl⟩
      · have h4 : is4 s lo = false := by
          cases h4 : is4 s lo
          · rfl
          · have := f3 h3; have := f4 h4; omega
        rw [h4]
        refine ⟨fun h => ?_, fun h => ?_⟩
        · simp only [Bool.false_eq_true, if_false, if_true, Bool.false_and, Bool.true_and] at h ⊢
          rw [if_pos (decide_eq_true h), if_pos (decide_eq_true h), r3_piece s lo hi hh h]; exact ⟨rfl, rfl⟩
        · simp only [Bool.false_eq_true, if_false, if_true, Bool.false_and, Bool.true_and] at h ⊢
          rw [decide_eq_false h]; exact ⟨rfl, rfl⟩
    · have h3 : is3 s lo = false := by
        cases h3 : is3 s lo
        · rfl
        · have := f2 h2; have := f3 h3; omega
      have h4 : is4 s lo = false := by
        cases h4 : is4 s lo
        · rfl
        · have := f2 h2; have := f4 h4; omega
      rw [h3, h4]
      refine ⟨fun h => ?_, fun h => ?_⟩
      · simp only [Bool.false_eq_true, if_false, if_true, Bool.false_and, Bool.true_and] at h ⊢
        rw [if_pos (decide_eq_true h), if_pos (decide_eq_true h), r2_piece s lo hi hh h]; exact ⟨rfl, rfl⟩
      · simp only [Bool.false_eq_true, if_false, if_true, Bool.false_and, Bool.true_and] at h ⊢
        rw [decide_eq_false h]; exact ⟨rfl, rfl⟩
  · have h2 : is2 s lo = false := by
      cases h2 : is2 s lo
      · rfl
      · have := f1 h1; have := f2 h2; omega
    have h3 : is3 s lo = false := by
      cases h3 : is3 s lo
      · rfl
      · have := f1 h1; have := f3 h3; omega
    have h4 : is4 s lo = false := by
      cases h4 : is4 s lo
      · rfl
      · have := f1 h1; have := f4 h4; omega
    rw [h2, h3, h4]
    refine ⟨fun h => ?_, fun h => ?_⟩
    · simp only [Bool.false_eq_true, if_false, if_true, Bool.false_and, Bool.true_and] at h ⊢
      have h0 : lo + 0 < hi := by omega
      rw [if_pos (decide_eq_true h), if_pos (decide_eq_true h), bt_extract s lo hi 0 hh h0]; exact ⟨rfl, rfl⟩
    · simp only [Bool.false_eq_true, if_false, if_true, Bool.false_and, Bool.true_and] at h ⊢
      rw [decide_eq_false h]; exact ⟨rfl, rfl⟩
end Go.Proofs.Ytcifoallahmjbaa
