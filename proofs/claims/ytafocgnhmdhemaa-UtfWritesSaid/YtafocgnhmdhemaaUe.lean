/- Pieces of a text, at any place; the next and the last scalar, in plain words. -/
import Derived.Test.YtafocgnhmdhemaaUspec
namespace Go.Proofs.Ytafocgnhmdhemaa
open Go.RowKit
open PlainAid (bt)

theorem bt_pre (s : ByteArray) (hi k : Nat) (hh : hi ≤ s.size) (h : k < hi) : bt (s.extract 0 hi) k = bt s k := by
  have := bt_extract s 0 hi k hh (by omega); rwa [Nat.zero_add] at this
theorem size_pre (s : ByteArray) (hi : Nat) (hh : hi ≤ s.size) : (s.extract 0 hi).size = hi := size_extract' s 0 hi hh (Nat.zero_le _)
theorem is1_pre (s : ByteArray) (hi a : Nat) (hh : hi ≤ s.size) : is1 (s.extract 0 hi) a = (is1 s a && decide (a + 1 ≤ hi)) := by
  by_cases h : a + 1 ≤ hi
  · rw [decide_eq_true h, Bool.and_true]
    unfold is1
    rw [size_pre s hi hh, bt_pre s hi a hh (by omega)]
    rw [decide_eq_true (show a < hi by omega), decide_eq_true (show a < s.size by omega)]
  · rw [decide_eq_false h, Bool.and_false]
    unfold is1
    rw [size_pre s hi hh, decide_eq_false (by omega)]
    simp
theorem is2_pre (s : ByteArray) (hi a : Nat) (hh : hi ≤ s.size) : is2 (s.extract 0 hi) a = (is2 s a && decide (a + 2 ≤ hi)) := by
  by_cases h : a + 2 ≤ hi
  · rw [decide_eq_true h, Bool.and_true]
    unfold is2 r2
    rw [size_pre s hi hh, bt_pre s hi a hh (by omega), bt_pre s hi (a + 1) hh (by omega)]
    rw [decide_eq_true h, decide_eq_true (show a + 2 ≤ s.size by omega)]
  · rw [decide_eq_false h, Bool.and_false]
    unfold is2
    rw [size_pre s hi hh, decide_eq_false (by omega)]
    simp
theorem r2_pre (s : ByteArray) (hi a : Nat) (hh : hi ≤ s.size) (h : a + 2 ≤ hi) : r2 (s.extract 0 hi) a = r2 s a := by
  unfold r2
  rw [bt_pre s hi a hh (by omega), bt_pre s hi (a + 1) hh (by omega)]
theorem is3_pre (s : ByteArray) (hi a : Nat) (hh : hi ≤ s.size) : is3 (s.extract 0 hi) a = (is3 s a && decide (a + 3 ≤ hi)) := by
  by_cases h : a + 3 ≤ hi
  · rw [decide_eq_true h, Bool.and_true]
    unfold is3 r3
    rw [size_pre s hi hh, bt_pre s hi a hh (by omega), bt_pre s hi (a + 1) hh (by omega), bt_pre s hi (a + 2) hh (by omega)]
    rw [decide_eq_true h, decide_eq_true (show a + 3 ≤ s.size by omega)]
  · rw [decide_eq_false h, Bool.and_false]
    unfold is3
    rw [size_pre s hi hh, decide_eq_false (by omega)]
    simp
theorem r3_pre (s : ByteArray) (hi a : Nat) (hh : hi ≤ s.size) (h : a + 3 ≤ hi) : r3 (s.extract 0 hi) a = r3 s a := by
  unfold r3
  rw [bt_pre s hi a hh (by omega), bt_pre s hi (a + 1) hh (by omega), bt_pre s hi (a + 2) hh (by omega)]
theorem is4_pre (s : ByteArray) (hi a : Nat) (hh : hi ≤ s.size) : is4 (s.extract 0 hi) a = (is4 s a && decide (a + 4 ≤ hi)) := by
  by_cases h : a + 4 ≤ hi
  · rw [decide_eq_true h, Bool.and_true]
    unfold is4 r4
    rw [size_pre s hi hh, bt_pre s hi a hh (by omega), bt_pre s hi (a + 1) hh (by omega), bt_pre s hi (a + 2) hh (by omega), bt_pre s hi (a + 3) hh (by omega)]
    rw [decide_eq_true h, decide_eq_true (show a + 4 ≤ s.size by omega)]
  · rw [decide_eq_false h, Bool.and_false]
    unfold is4
    rw [size_pre s hi hh, decide_eq_false (by omega)]
    simp
theorem r4_pre (s : ByteArray) (hi a : Nat) (hh : hi ≤ s.size) (h : a + 4 ≤ hi) : r4 (s.extract 0 hi) a = r4 s a := by
  unfold r4
  rw [bt_pre s hi a hh (by omega), bt_pre s hi (a + 1) hh (by omega), bt_pre s hi (a + 2) hh (by omega), bt_pre s hi (a + 3) hh (by omega)]
theorem fmR_zero (s : ByteArray) (a : Nat) (h : fmN s a = 0) : fmR s a = 0 := by
  unfold fmN at h; unfold fmR
  cases h1 : is1 s a
  · rw [h1] at h
    cases h2 : is2 s a
    · rw [h2] at h
      cases h3 : is3 s a
      · rw [h3] at h
        cases h4 : is4 s a
        · rfl
        · rw [h4] at h; simp at h
      · rw [h3] at h; simp at h
    · rw [h2] at h; simp at h
  · rw [h1] at h; simp at h
theorem fm_excl (s : ByteArray) (a : Nat) : (fmN s a = 1 ↔ is1 s a = true) ∧ (fmN s a = 2 ↔ is2 s a = true) ∧ (fmN s a = 3 ↔ is3 s a = true) ∧ (fmN s a = 4 ↔ is4 s a = true) := by
  obtain ⟨f1, f2, f3, f4⟩ := is_first s a
  unfold fmN
  cases h1 : is1 s a
  · cases h2 : is2 s a
    · cases h3 : is3 s a
      · cases h4 : is4 s a <;> simp
      · have h4 : is4 s a = false := by
          cases h4 : is4 s a
          · rfl
          · have := f3 h3; have := f4 h4; omega
        rw [h4]; simp
    · have h3 : is3 s a = false := by
        cases h3 : is3 s a
        · rfl
        · have := f2 h2; have := f3 h3; omega
      have h4 : is4 s a = false := by
        cases h4 : is4 s a
        · rfl
        · have := f2 h2; have := f4 h4; omega
      rw [h3, h4]; simp
  · have h2 : is2 s a = false := by
      cases h2 : is2 s a
      · rfl
      · have := f1 h1; have := f2 h2; omega
    have h3 : is3 s a = false := by
      cases h3 : is3 s a
      · rfl
      · have := f1 h1; have := f3 h3; omega
    have h4 : is4 s a = false := by
      cases h4 : is4 s a
      · rfl
      · have := f1 h1; have := f4 h4; omega
    rw [h2, h3, h4]; simp
theorem fm_pre (s : ByteArray) (hi a : Nat) (hh : hi ≤ s.size) :
    (a + fmN s a ≤ hi → fmR (s.extract 0 hi) a = fmR s a ∧ fmN (s.extract 0 hi) a = fmN s a) ∧ (¬ a + fmN s a ≤ hi → fmR (s.extract 0 hi) a = 0 ∧ fmN (s.extract 0 hi) a = 0) := by
  obtain ⟨f1, f2, f3, f4⟩ := fm_excl s a
  have hle := fmN_le s a
  have hz := fmR_zero s a
  have q : fmN s a = 0 ∨ fmN s a = 1 ∨ fmN s a = 2 ∨ fmN s a = 3 ∨ fmN s a = 4 := by omega
  have g1 : ∀ b : Bool, is1 s a = b → b = decide (fmN s a = 1) := fun b hb => by subst hb; rw [Bool.eq_iff_iff, decide_eq_true_eq]; exact f1.symm
  have g2 : ∀ b : Bool, is2 s a = b → b = decide (fmN s a = 2) := fun b hb => by subst hb; rw [Bool.eq_iff_iff, decide_eq_true_eq]; exact f2.symm
  have g3 : ∀ b : Bool, is3 s a = b → b = decide (fmN s a = 3) := fun b hb => by subst hb; rw [Bool.eq_iff_iff, decide_eq_true_eq]; exact f3.symm
  have g4 : ∀ b : Bool, is4 s a = b → b = decide (fmN s a = 4) := fun b hb => by subst hb; rw [Bool.eq_iff_iff, decide_eq_true_eq]; exact f4.symm
  have k1 := g1 _ rfl
  have k2 := g2 _ rfl
  have k3 := g3 _ rfl
  have k4 := g4 _ rfl
  have eR : fmR (s.extract 0 hi) a = if is1 (s.extract 0 hi) a then bt (s.extract 0 hi) a else if is2 (s.extract 0 hi) a then r2 (s.extract 0 hi) a else if is3 (s.extract 0 hi) a then r3 (s.extract 0 hi) a else if is4 (s.extract 0 hi) a then r4 (s.extract 0 hi) a else 0 := rfl
  have eR' : fmR s a = if is1 s a then bt s a else if is2 s a then r2 s a else if is3 s a then r3 s a else if is4 s a then r4 s a else 0 := rfl
  have eN : fmN (s.extract 0 hi) a = if is1 (s.extract 0 hi) a then 1 else if is2 (s.extract 0 hi) a then 2 else if is3 (s.extract 0 hi) a then 3 else if is4 (s.extract 0 hi) a then 4 else 0 := rfl
  rw [eR, eN, is1_pre s hi a hh, is2_pre s hi a hh, is3_pre s hi a hh, is4_pre s hi a hh, k1, k2, k3, k4]
  rw [k1, k2, k3, k4] at eR'
  rcases q with q | q | q | q | q
  all_goals
    rw [q] at eR' ⊢
    simp only [decide_true, decide_false, Nat.reduceEqDiff, Bool.false_eq_true, if_false, if_true, Bool.false_and, Bool.true_and] at eR' ⊢
  · exact ⟨fun _ => ⟨eR'.symm, trivial⟩, fun _ => ⟨trivial, trivial⟩⟩
  · refine ⟨fun h => ?_, fun h => ?_⟩
    · rw [if_pos (decide_eq_true h), if_pos (decide_eq_true h), bt_pre s hi a hh (by omega)]; exact ⟨eR'.symm, rfl⟩
    · rw [decide_eq_false h]; exact ⟨rfl, rfl⟩
  · refine ⟨fun h => ?_, fun h => ?_⟩
    · rw [if_pos (decide_eq_true h), if_pos (decide_eq_true h), r2_pre s hi a hh h]; exact ⟨eR'.symm, rfl⟩
    · rw [decide_eq_false h]; exact ⟨rfl, rfl⟩
  · refine ⟨fun h => ?_, fun h => ?_⟩
    · rw [if_pos (decide_eq_true h), if_pos (decide_eq_true h), r3_pre s hi a hh h]; exact ⟨eR'.symm, rfl⟩
    · rw [decide_eq_false h]; exact ⟨rfl, rfl⟩
  · refine ⟨fun h => ?_, fun h => ?_⟩
    · rw [if_pos (decide_eq_true h), if_pos (decide_eq_true h), r4_pre s hi a hh h]; exact ⟨eR'.symm, rfl⟩
    · rw [decide_eq_false h]; exact ⟨rfl, rfl⟩
/-- the error's number where no form stands -/
def erN (n : Nat) : Int := if n = 0 then 40 else 0
/-- how long the form is that ends at a place -/
def lsN (s : ByteArray) (a : Nat) : Nat :=
  if 1 ≤ a ∧ fmN s (a - 1) = 1 then 1 else if 2 ≤ a ∧ fmN s (a - 2) = 2 then 2 else if 3 ≤ a ∧ fmN s (a - 3) = 3 then 3 else if 4 ≤ a ∧ fmN s (a - 4) = 4 then 4 else 0
def lsR (s : ByteArray) (a : Nat) : Int := if lsN s a = 0 then 0 else fmR s (a - lsN s a)
def lsB (s : ByteArray) (a n : Nat) : Bool := decide (n ≤ a ∧ fmN s (a - n) = n)
theorem ls_hit (s : ByteArray) (a n : Nat) (h0 : 1 ≤ n) (h4 : n ≤ 4) (h : lsB s a n = true) (hm : ∀ m, 1 ≤ m → m < n → lsB s a m = false) : lsN s a = n ∧ lsR s a = fmR s (a - n) := by
  have hN : lsN s a = n := by
    unfold lsN
    have h' := of_decide_eq_true h
    have hq : ∀ m, 1 ≤ m → m < n → ¬ (m ≤ a ∧ fmN s (a - m) = m) := fun m a1 a2 => of_decide_eq_false (hm m a1 a2)
    have : n = 1 ∨ n = 2 ∨ n = 3 ∨ n = 4 := by omega
    rcases this with rfl | rfl | rfl | rfl
    · rw [if_pos h']
    · rw [if_neg (hq 1 (by omega) (by omega)), if_pos h']
    · rw [if_neg (hq 1 (by omega) (by omega)), if_neg (hq 2 (by omega) (by omega)), if_pos h']
    · rw [if_neg (hq 1 (by omega) (by omega)), if_neg (hq 2 (by omega) (by omega)), if_neg (hq 3 (by omega) (by omega)), if_pos h']
  exact ⟨hN, by unfold lsR; rw [hN, if_neg (by omega)]⟩
theorem ls_miss (s : ByteArray) (a : Nat) (hm : ∀ m, 1 ≤ m → m ≤ 4 → lsB s a m = false) : lsN s a = 0 ∧ lsR s a = 0 := by
  have hq : ∀ m, 1 ≤ m → m ≤ 4 → ¬ (m ≤ a ∧ fmN s (a - m) = m) := fun m a1 a2 => of_decide_eq_false (hm m a1 a2)
  have hN : lsN s a = 0 := by
    unfold lsN
    rw [if_neg (hq 1 (by omega) (by omega)), if_neg (hq 2 (by omega) (by omega)), if_neg (hq 3 (by omega) (by omega)), if_neg (hq 4 (by omega) (by omega))]
  exact ⟨hN, by unfold lsR; rw [hN, if_pos rfl]⟩
end Go.Proofs.Ytafocgnhmdhemaa
