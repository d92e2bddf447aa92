/- UTF-8 in plain words: which scalar's form stands at a place of a text. form of package utf: the walk. form of package utf, at every text. Next and Last of package utf and of the reference: walks. -/
import Derived.Test.YtlldoofclaokgaaGreatBase
namespace Go.Proofs.YtlldoofclaokgaaGreat
open Go.RowKit
open PlainAid (bt)

/-- a scalar -/
def sc (r : Int) : Bool := decide (0 ≤ r ∧ r < 55296) || decide (57343 < r ∧ r ≤ 1114111)
/-- how long its form is -/
def lg (r : Int) : Nat := if r < 128 then 1 else if r < 2048 then 2 else if r < 65536 then 3 else 4
/-- a byte that goes on -/
def co (c : Int) : Bool := decide (128 ≤ c ∧ c < 192)
/-- its form -/
def enc (r : Int) : List Int :=
  if r < 128 then [r] else if r < 2048 then [192 + r / 64, 128 + r % 64] else if r < 65536 then [224 + r / 4096, 128 + r / 64 % 64, 128 + r % 64]
  else [240 + r / 262144, 128 + r / 4096 % 64, 128 + r / 64 % 64, 128 + r % 64]
/-- what the bytes at a place come to, as a form of two, three, four bytes -/
def r2 (s : ByteArray) (a : Nat) : Int := bt s a % 32 * 64 + bt s (a + 1) % 64
def r3 (s : ByteArray) (a : Nat) : Int := (bt s a % 16 * 64 + bt s (a + 1) % 64) * 64 + bt s (a + 2) % 64
def r4 (s : ByteArray) (a : Nat) : Int := ((bt s a % 8 * 64 + bt s (a + 1) % 64) * 64 + bt s (a + 2) % 64) * 64 + bt s (a + 3) % 64
def is1 (s : ByteArray) (a : Nat) : Bool := decide (a < s.size) && decide (bt s a < 128)
def is2 (s : ByteArray) (a : Nat) : Bool := decide (a + 2 ≤ s.size) && decide (192 ≤ bt s a ∧ bt s a < 224) && co (bt s (a + 1)) && sc (r2 s a) && decide (lg (r2 s a) = 2)
def is3 (s : ByteArray) (a : Nat) : Bool := decide (a + 3 ≤ s.size) && decide (224 ≤ bt s a ∧ bt s a < 240) && co (bt s (a + 1)) && co (bt s (a + 2)) && sc (r3 s a) && decide (lg (r3 s a) = 3)
def is4 (s : ByteArray) (a : Nat) : Bool := decide (a + 4 ≤ s.size) && decide (240 ≤ bt s a ∧ bt s a < 248) && co (bt s (a + 1)) && co (bt s (a + 2)) && co (bt s (a + 3)) && sc (r4 s a) && decide (lg (r4 s a) = 4)
/-- the scalar, and the length of its form; 0: none -/
def fmR (s : ByteArray) (a : Nat) : Int := if is1 s a then bt s a else if is2 s a then r2 s a else if is3 s a then r3 s a else if is4 s a then r4 s a else 0
def fmN (s : ByteArray) (a : Nat) : Nat := if is1 s a then 1 else if is2 s a then 2 else if is3 s a then 3 else if is4 s a then 4 else 0

theorem fmN_le (s : ByteArray) (a : Nat) : fmN s a ≤ 4 := by unfold fmN; repeat' split <;> try omega
theorem fmN_size (s : ByteArray) (a : Nat) (h : fmN s a ≠ 0) : a + fmN s a ≤ s.size := by
  unfold fmN at h ⊢
  by_cases h1 : is1 s a = true
  · rw [if_pos h1]; simp [is1] at h1; omega
  rw [if_neg h1] at h ⊢
  by_cases h2 : is2 s a = true
  · rw [if_pos h2]; simp [is2] at h2; omega
  rw [if_neg h2] at h ⊢
  by_cases h3 : is3 s a = true
  · rw [if_pos h3]; simp [is3] at h3; omega
  rw [if_neg h3] at h ⊢
  by_cases h4 : is4 s a = true
  · rw [if_pos h4]; simp [is4] at h4; omega
  rw [if_neg h4] at h; exact absurd rfl h
theorem bt_extract (s : ByteArray) (lo hi k : Nat) (hh : hi ≤ s.size) (h : lo + k < hi) : bt (s.extract lo hi) k = bt s (lo + k) := by
  unfold bt
  rw [dif_pos (by rw [ByteArray.size_extract]; omega), dif_pos (by omega)]
  rw [ByteArray.getElem_extract]
theorem size_extract' (s : ByteArray) (lo hi : Nat) (hh : hi ≤ s.size) (hl : lo ≤ hi) : (s.extract lo hi).size = hi - lo := by
  rw [ByteArray.size_extract]; omega
theorem is1_piece (s : ByteArray) (lo hi : Nat) (hh : hi ≤ s.size) (hl : lo ≤ hi) : is1 (s.extract lo hi) 0 = (is1 s lo && decide (lo + 1 ≤ hi)) := by
  by_cases h : lo + 1 ≤ hi
  · rw [decide_eq_true h, Bool.and_true]
    unfold is1
    rw [size_extract' s lo hi hh hl]
    
    rw [bt_extract s lo hi 0 hh (by omega)]
    rw [decide_eq_true (show 0 < hi - lo by omega), decide_eq_true (show lo < s.size by omega)]; rfl
  · rw [decide_eq_false h, Bool.and_false]
    unfold is1
    rw [size_extract' s lo hi hh hl, decide_eq_false (by omega)]
    simp
theorem is2_piece (s : ByteArray) (lo hi : Nat) (hh : hi ≤ s.size) (hl : lo ≤ hi) : is2 (s.extract lo hi) 0 = (is2 s lo && decide (lo + 2 ≤ hi)) := by
  by_cases h : lo + 2 ≤ hi
  · rw [decide_eq_true h, Bool.and_true]
    unfold is2 r2
    rw [size_extract' s lo hi hh hl]
    simp only [Nat.zero_add]
    rw [bt_extract s lo hi 0 hh (by omega), bt_extract s lo hi 1 hh (by omega)]
    rw [decide_eq_true (show 2 ≤ hi - lo by omega), decide_eq_true (show lo + 2 ≤ s.size by omega)]; rfl
  · rw [decide_eq_false h, Bool.and_false]
    unfold is2
    rw [size_extract' s lo hi hh hl, decide_eq_false (by omega)]
    simp
theorem is3_piece (s : ByteArray) (lo hi : Nat) (hh : hi ≤ s.size) (hl : lo ≤ hi) : is3 (s.extract lo hi) 0 = (is3 s lo && decide (lo + 3 ≤ hi)) := by
  by_cases h : lo + 3 ≤ hi
  · rw [decide_eq_true h, Bool.and_true]
    unfold is3 r3
    rw [size_extract' s lo hi hh hl]
    simp only [Nat.zero_add]
    rw [bt_extract s lo hi 0 hh (by omega), bt_extract s lo hi 1 hh (by omega), bt_extract s lo hi 2 hh (by omega)]
    rw [decide_eq_true (show 3 ≤ hi - lo by omega), decide_eq_true (show lo + 3 ≤ s.size by omega)]; rfl
  · rw [decide_eq_false h, Bool.and_false]
    unfold is3
    rw [size_extract' s lo hi hh hl, decide_eq_false (by omega)]
    simp
theorem is4_piece (s : ByteArray) (lo hi : Nat) (hh : hi ≤ s.size) (hl : lo ≤ hi) : is4 (s.extract lo hi) 0 = (is4 s lo && decide (lo + 4 ≤ hi)) := by
  by_cases h : lo + 4 ≤ hi
  · rw [decide_eq_true h, Bool.and_true]
    unfold is4 r4
    rw [size_extract' s lo hi hh hl]
    simp only [Nat.zero_add]
    rw [bt_extract s lo hi 0 hh (by omega), bt_extract s lo hi 1 hh (by omega), bt_extract s lo hi 2 hh (by omega), bt_extract s lo hi 3 hh (by omega)]
    rw [decide_eq_true (show 4 ≤ hi - lo by omega), decide_eq_true (show lo + 4 ≤ s.size by omega)]; rfl
  · rw [decide_eq_false h, Bool.and_false]
    unfold is4
    rw [size_extract' s lo hi hh hl, decide_eq_false (by omega)]
    simp
theorem r2_piece (s : ByteArray) (lo hi : Nat) (hh : hi ≤ s.size) (h : lo + 2 ≤ hi) : r2 (s.extract lo hi) 0 = r2 s lo := by
  unfold r2
  simp only [Nat.zero_add]
  rw [bt_extract s lo hi 0 hh (by omega), bt_extract s lo hi 1 hh (by omega)]
  rfl
theorem r3_piece (s : ByteArray) (lo hi : Nat) (hh : hi ≤ s.size) (h : lo + 3 ≤ hi) : r3 (s.extract lo hi) 0 = r3 s lo := by
  unfold r3
  simp only [Nat.zero_add]
  rw [bt_extract s lo hi 0 hh (by omega), bt_extract s lo hi 1 hh (by omega), bt_extract s lo hi 2 hh (by omega)]
  rfl
theorem r4_piece (s : ByteArray) (lo hi : Nat) (hh : hi ≤ s.size) (h : lo + 4 ≤ hi) : r4 (s.extract lo hi) 0 = r4 s lo := by
  unfold r4
  simp only [Nat.zero_add]
  rw [bt_extract s lo hi 0 hh (by omega), bt_extract s lo hi 1 hh (by omega), bt_extract s lo hi 2 hh (by omega), bt_extract s lo hi 3 hh (by omega)]
  rfl
theorem is_first (s : ByteArray) (a : Nat) : (is1 s a = true → bt s a < 128) ∧ (is2 s a = true → 192 ≤ bt s a ∧ bt s a < 224) ∧ (is3 s a = true → 224 ≤ bt s a ∧ bt s a < 240) ∧ (is4 s a = true → 240 ≤ bt s a ∧ bt s a < 248) := by
  refine ⟨fun h => ?_, fun h => ?_, fun h => ?_, fun h => ?_⟩
  · simp only [is1, Bool.and_eq_true, decide_eq_true_eq] at h; exact h.2
  · simp only [is2, Bool.and_eq_true, decide_eq_true_eq] at h; exact h.1.1.1.2
  · simp only [is3, Bool.and_eq_true, decide_eq_true_eq] at h; exact h.1.1.1.1.2
  · simp only [is4, Bool.and_eq_true, decide_eq_true_eq] at h; exact h.1.1.1.1.1.2
/-- a piece of a text: what stands at its head is what stands there in the text, if it lies within the piece -/
theorem fm_piece (s : ByteArray) (lo hi : Nat) (hh : hi ≤ s.size) (hl : lo ≤ hi) :
    (lo + fmN s lo ≤ hi → fmR (s.extract lo hi) 0 = fmR s lo ∧ fmN (s.extract lo hi) 0 = fmN s lo) ∧ (¬ lo + fmN s lo ≤ hi → fmR (s.extract lo hi) 0 = 0 ∧ fmN (s.extract lo hi) 0 = 0) := by
  obtain ⟨f1, f2, f3, f4⟩ := is_first s lo
  unfold fmR fmN
  rw [is1_piece s lo hi hh hl, is2_piece s lo hi hh hl, is3_piece s lo hi hh hl, is4_piece s lo hi hh hl]
  cases h1 : is1 s lo
  · cases h2 : is2 s lo
    · cases h3 : is3 s lo
      · cases h4 : is4 s lo
        · simp
        · refine ⟨fun h => ?_, fun h => ?_⟩
          · simp only [Bool.false_eq_true, if_false, if_true, Bool.false_and, Bool.true_and] at h ⊢
            rw [if_pos (decide_eq_true h), if_pos (decide_eq_true h), r4_piece s lo hi hh h]; exact ⟨rfl, rfl⟩
          · simp only [Bool.false_eq_true, if_false, if_true, Bool.false_and, Bool.true_and] at h ⊢
            rw [decide_eq_false h]; exact ⟨rfl, rfl⟩
      · have h4 : is4 s lo = false := by
          cases h4 : is4 s lo
          · rfl
          · have := f3 h3; have := f4 h4; omega
        rw [h4]
        refine ⟨fun h => ?_, fun h => ?_⟩
        · simp only [Bool.false_eq_true, if_false, if_true, Bool.false_and, Bool.true_and] at h ⊢
          rw [if_pos (decide_eq_true h), if_pos (decide_eq_true h), r3_piece s lo hi hh h]; exact ⟨rfl, rfl⟩
        · simp only [Bool.false_eq_true, if_false, if_true, Bool.false_and, Bool.true_and] at h ⊢
          rw [decide_eq_false h]; exact ⟨rfl, rfl⟩
    · have h3 : is3 s lo = false := by
        cases h3 : is3 s lo
        · rfl
        · have := f2 h2; have := f3 h3; omega
      have h4 : is4 s lo = false := by
        cases h4 : is4 s lo
        · rfl
        · have := f2 h2; have := f4 h4; omega
      rw [h3, h4]
      refine ⟨fun h => ?_, fun h => ?_⟩
      · simp only [Bool.false_eq_true, if_false, if_true, Bool.false_and, Bool.true_and] at h ⊢
        rw [if_pos (decide_eq_true h), if_pos (decide_eq_true h), r2_piece s lo hi hh h]; exact ⟨rfl, rfl⟩
      · simp only [Bool.false_eq_true, if_false, if_true, Bool.false_and, Bool.true_and] at h ⊢
        rw [decide_eq_false h]; exact ⟨rfl, rfl⟩
  · have h2 : is2 s lo = false := by
      cases h2 : is2 s lo
      · rfl
      · have := f1 h1; have := f2 h2; omega
    have h3 : is3 s lo = false := by
      cases h3 : is3 s lo
      · rfl
      · have := f1 h1; have := f3 h3; omega
    have h4 : is4 s lo = false := by
      cases h4 : is4 s lo
      · rfl
      · have := f1 h1; have := f4 h4; omega
    rw [h2, h3, h4]
    refine ⟨fun h => ?_, fun h => ?_⟩
    · simp only [Bool.false_eq_true, if_false, if_true, Bool.false_and, Bool.true_and] at h ⊢
      have h0 : lo + 0 < hi := by omega
      rw [if_pos (decide_eq_true h), if_pos (decide_eq_true h), bt_extract s lo hi 0 hh h0]; exact ⟨rfl, rfl⟩
    · simp only [Bool.false_eq_true, if_false, if_true, Bool.false_and, Bool.true_and] at h ⊢
      rw [decide_eq_false h]; exact ⟨rfl, rfl⟩
end Go.Proofs.YtlldoofclaokgaaGreat
namespace Go.Proofs.YtlldoofclaokgaaGreat
open Go.RowKit
open PlainAid (bt)

theorem empty_no (s : ByteArray) (h : 0 < s.size) : s.toList.isEmpty = false := by
  rw [← decide_eq_emptyBytes]
  exact decide_eq_false (fun e => by rw [e] at h; exact absurd h (by decide))
theorem co_bits (b : Int) (h0 : 0 ≤ b) (h1 : b < 256) : (bits .and .u8 b 192 != 128) = !co b := by
  have : ∀ n : Fin 256, (bits .and .u8 (n.val : Int) 192 != 128) = !co (n.val : Int) := by decide +kernel
  have e := this ⟨b.toNat, by omega⟩
  have e2 : ((b.toNat : Nat) : Int) = b := by omega
  simp only [e2] at e
  exact e

set_option maxHeartbeats 400000 in
theorem scalar_any (r : Int) (w : World) :
    Calls Tryz.prog 56 #[.int .i32 r] w fun e w' => e = .returned (.bool (sc r)) ∧ w = w' := by
  go_enter Tryz.func56, Tryz.ntmps56
  go_wp2
  all_goals go_ret
  all_goals (refine ⟨?_, rfl⟩; simp_all [sc]; try omega)

set_option maxHeartbeats 400000 in
theorem long_any (r : Int) (w : World) :
    Calls Tryz.prog 124 #[.int .i32 r] w fun e w' => e = .returned (.int .i64 (lg r)) ∧ w = w' := by
  go_enter Tryz.func124, Tryz.ntmps124
  go_wp2
  all_goals go_ret
  all_goals (refine ⟨?_, rfl⟩; simp_all [lg]; try (repeat' split) <;> omega)
def ok2 (s : ByteArray) : Bool := co (bt s 1) && sc (bt s 0 % 32 * 64 + bt s 1 % 64) && decide (lg (bt s 0 % 32 * 64 + bt s 1 % 64) = 2)
theorem fm2 (s : ByteArray) (h : 2 ≤ s.size) (f0 : 192 ≤ bt s 0) (f1 : bt s 0 < 224) : (ok2 s = true → fmR s 0 = bt s 0 % 32 * 64 + bt s 1 % 64 ∧ fmN s 0 = 2) ∧ (ok2 s = false → fmR s 0 = 0 ∧ fmN s 0 = 0) := by
  obtain ⟨g1, g2, g3, g4⟩ := is_first s 0
  have n1 : is1 s 0 = false := by
    cases hh : is1 s 0
    · rfl
    · have := g1 hh; omega
  have n3 : is3 s 0 = false := by
    cases hh : is3 s 0
    · rfl
    · have := g3 hh; omega
  have n4 : is4 s 0 = false := by
    cases hh : is4 s 0
    · rfl
    · have := g4 hh; omega
  have e : is2 s 0 = ok2 s := by
    unfold is2 ok2 r2
    simp only [Nat.zero_add]
    rw [decide_eq_true h, decide_eq_true (show 192 ≤ bt s 0 ∧ bt s 0 < 224 from ⟨f0, f1⟩)]
    rfl
  unfold fmR fmN
  rw [n1, n3, n4, e]
  refine ⟨fun hk => ?_, fun hk => ?_⟩
  · rw [hk]; exact ⟨rfl, rfl⟩
  · rw [hk]; exact ⟨rfl, rfl⟩
def ok3 (s : ByteArray) : Bool := co (bt s 1) && co (bt s 2) && sc ((bt s 0 % 16 * 64 + bt s 1 % 64) * 64 + bt s 2 % 64) && decide (lg ((bt s 0 % 16 * 64 + bt s 1 % 64) * 64 + bt s 2 % 64) = 3)
theorem fm3 (s : ByteArray) (h : 3 ≤ s.size) (f0 : 224 ≤ bt s 0) (f1 : bt s 0 < 240) : (ok3 s = true → fmR s 0 = (bt s 0 % 16 * 64 + bt s 1 % 64) * 64 + bt s 2 % 64 ∧ fmN s 0 = 3) ∧ (ok3 s = false → fmR s 0 = 0 ∧ fmN s 0 = 0) := by
  obtain ⟨g1, g2, g3, g4⟩ := is_first s 0
  have n1 : is1 s 0 = false := by
    cases hh : is1 s 0
    · rfl
    · have := g1 hh; omega
  have n2 : is2 s 0 = false := by
    cases hh : is2 s 0
    · rfl
    · have := g2 hh; omega
  have n4 : is4 s 0 = false := by
    cases hh : is4 s 0
    · rfl
    · have := g4 hh; omega
  have e : is3 s 0 = ok3 s := by
    unfold is3 ok3 r3
    simp only [Nat.zero_add]
    rw [decide_eq_true h, decide_eq_true (show 224 ≤ bt s 0 ∧ bt s 0 < 240 from ⟨f0, f1⟩)]
    rfl
  unfold fmR fmN
  rw [n1, n2, n4, e]
  refine ⟨fun hk => ?_, fun hk => ?_⟩
  · rw [hk]; exact ⟨rfl, rfl⟩
  · rw [hk]; exact ⟨rfl, rfl⟩
def ok4 (s : ByteArray) : Bool := co (bt s 1) && co (bt s 2) && co (bt s 3) && sc (((bt s 0 % 8 * 64 + bt s 1 % 64) * 64 + bt s 2 % 64) * 64 + bt s 3 % 64) && decide (lg (((bt s 0 % 8 * 64 + bt s 1 % 64) * 64 + bt s 2 % 64) * 64 + bt s 3 % 64) = 4)
theorem fm4 (s : ByteArray) (h : 4 ≤ s.size) (f0 : 240 ≤ bt s 0) (f1 : bt s 0 < 248) : (ok4 s = true → fmR s 0 = ((bt s 0 % 8 * 64 + bt s 1 % 64) * 64 + bt s 2 % 64) * 64 + bt s 3 % 64 ∧ fmN s 0 = 4) ∧ (ok4 s = false → fmR s 0 = 0 ∧ fmN s 0 = 0) := by
  obtain ⟨g1, g2, g3, g4⟩ := is_first s 0
  have n1 : is1 s 0 = false := by
    cases hh : is1 s 0
    · rfl
    · have := g1 hh; omega
  have n2 : is2 s 0 = false := by
    cases hh : is2 s 0
    · rfl
    · have := g2 hh; omega
  have n3 : is3 s 0 = false := by
    cases hh : is3 s 0
    · rfl
    · have := g3 hh; omega
  have e : is4 s 0 = ok4 s := by
    unfold is4 ok4 r4
    simp only [Nat.zero_add]
    rw [decide_eq_true h, decide_eq_true (show 240 ≤ bt s 0 ∧ bt s 0 < 248 from ⟨f0, f1⟩)]
    rfl
  unfold fmR fmN
  rw [n1, n2, n3, e]
  refine ⟨fun hk => ?_, fun hk => ?_⟩
  · rw [hk]; exact ⟨rfl, rfl⟩
  · rw [hk]; exact ⟨rfl, rfl⟩

set_option maxHeartbeats 4000000 in
set_option maxRecDepth 100000 in
theorem form_2 (s : ByteArray) (w : World) (hs : s.size ≤ maxLen) (h : 2 ≤ s.size) (f0 : 192 ≤ bt s 0) (f1 : bt s 0 < 224) :
    Calls Tryz.prog 123 #[.string s] w fun e w' => e = .returned (.tuple #[.int .i32 (fmR s 0), .int .i64 (fmN s 0)]) ∧ Below w.heap.size w w' := by
  have HN := Lib.hid (fm2 s h f0 f1)
  unfold maxLen at hs
  have hem := empty_no s (by omega)
  have hb := PlainAid.get_bt s
  obtain ⟨cap, w1, hcv, hcell, hb1, hz1⟩ := bytes_of (P := Tryz.prog) w 9 27 5 (s.extract 1 2) Tryz.underlying9 Tryz.underlying27 Tryz.underlying5
  rw [size_extract' s 1 2 (by omega) (by omega)] at hcv hcell
  have c1 := hcell 0 (by omega)
  rw [bt_extract s 1 2 0 (by omega) (by omega)] at c1
  clear hcell
  have bl1 := PlainAid.bt_nonneg s 1
  have bh1 := PlainAid.bt_le s 1
  have m1 := u8_and63 (x := bt s 1) bl1 (by omega)
  have s1 := co_bits (bt s 1) bl1 (by omega)
  have m0 := u8_and31 (x := bt s 0) (by omega) (by omega)
  go_enter Tryz.func123, Tryz.ntmps123
  go_wp2_with fail
  refine wp_loop_rounds 2 ?_
  all_goals (try rw [rounds_succ])
  go_wp2
  all_goals (try rw [rounds_succ])
  go_wp2_with (first | (go_at_call 56; refine (scalar_any _ _).mono ?_; rintro e w' ⟨rfl, rfl⟩) | (go_at_call 124; refine (long_any _ _).mono ?_; rintro e w' ⟨rfl, rfl⟩))
  all_goals go_ret2
  all_goals refine ⟨?_, hb1⟩
  all_goals first
    | (have hc : ok2 s = true := by (unfold ok2; simp_all; done)
       rw [(HN.out.1 hc).1, (HN.out.1 hc).2]; rfl)
    | (have hc : ok2 s = true := by (unfold ok2; simp_all; omega)
       rw [(HN.out.1 hc).1, (HN.out.1 hc).2]; rfl)
    | (have hc : ok2 s = false := by (unfold ok2; simp_all; done)
       rw [(HN.out.2 hc).1, (HN.out.2 hc).2]; rfl)
    | (have hc : ok2 s = false := by (unfold ok2; simp_all; omega)
       rw [(HN.out.2 hc).1, (HN.out.2 hc).2]; rfl)

set_option maxHeartbeats 4000000 in
set_option maxRecDepth 100000 in
theorem form_3 (s : ByteArray) (w : World) (hs : s.size ≤ maxLen) (h : 3 ≤ s.size) (f0 : 224 ≤ bt s 0) (f1 : bt s 0 < 240) :
    Calls Tryz.prog 123 #[.string s] w fun e w' => e = .returned (.tuple #[.int .i32 (fmR s 0), .int .i64 (fmN s 0)]) ∧ Below w.heap.size w w' := by
  have HN := Lib.hid (fm3 s h f0 f1)
  unfold maxLen at hs
  have hem := empty_no s (by omega)
  have hb := PlainAid.get_bt s
  obtain ⟨cap, w1, hcv, hcell, hb1, hz1⟩ := bytes_of (P := Tryz.prog) w 9 27 5 (s.extract 1 3) Tryz.underlying9 Tryz.underlying27 Tryz.underlying5
  rw [size_extract' s 1 3 (by omega) (by omega)] at hcv hcell
  have c1 := hcell 0 (by omega)
  rw [bt_extract s 1 3 0 (by omega) (by omega)] at c1
  have c2 := hcell 1 (by omega)
  rw [bt_extract s 1 3 1 (by omega) (by omega)] at c2
  clear hcell
  have bl1 := PlainAid.bt_nonneg s 1
  have bh1 := PlainAid.bt_le s 1
  have m1 := u8_and63 (x := bt s 1) bl1 (by omega)
  have s1 := co_bits (bt s 1) bl1 (by omega)
  have bl2 := PlainAid.bt_nonneg s 2
  have bh2 := PlainAid.bt_le s 2
  have m2 := u8_and63 (x := bt s 2) bl2 (by omega)
  have s2 := co_bits (bt s 2) bl2 (by omega)
  have m0 := u8_and15 (x := bt s 0) (by omega) (by omega)
  go_enter Tryz.func123, Tryz.ntmps123
  go_wp2_with fail
  refine wp_loop_rounds 3 ?_
  all_goals (try rw [rounds_succ])
  go_wp2
  all_goals (try rw [rounds_succ])
  go_wp2
  all_goals (try rw [rounds_succ])
  go_wp2_with (first | (go_at_call 56; refine (scalar_any _ _).mono ?_; rintro e w' ⟨rfl, rfl⟩) | (go_at_call 124; refine (long_any _ _).mono ?_; rintro e w' ⟨rfl, rfl⟩))
  all_goals go_ret2
  all_goals refine ⟨?_, hb1⟩
  all_goals first
    | (have hc : ok3 s = true := by (unfold ok3; simp_all; done)
       rw [(HN.out.1 hc).1, (HN.out.1 hc).2]; rfl)
    | (have hc : ok3 s = true := by (unfold ok3; simp_all; omega)
       rw [(HN.out.1 hc).1, (HN.out.1 hc).2]; rfl)
    | (have hc : ok3 s = false := by (unfold ok3; simp_all; done)
       rw [(HN.out.2 hc).1, (HN.out.2 hc).2]; rfl)
    | (have hc : ok3 s = false := by (unfold ok3; simp_all; omega)
       rw [(HN.out.2 hc).1, (HN.out.2 hc).2]; rfl)

set_option maxHeartbeats 4000000 in
set_option maxRecDepth 100000 in
theorem form_4 (s : ByteArray) (w : World) (hs : s.size ≤ maxLen) (h : 4 ≤ s.size) (f0 : 240 ≤ bt s 0) (f1 : bt s 0 < 248) :
    Calls Tryz.prog 123 #[.string s] w fun e w' => e = .returned (.tuple #[.int .i32 (fmR s 0), .int .i64 (fmN s 0)]) ∧ Below w.heap.size w w' := by
  have HN := Lib.hid (fm4 s h f0 f1)
  unfold maxLen at hs
  have hem := empty_no s (by omega)
  have hb := PlainAid.get_bt s
  obtain ⟨cap, w1, hcv, hcell, hb1, hz1⟩ := bytes_of (P := Tryz.prog) w 9 27 5 (s.extract 1 4) Tryz.underlying9 Tryz.underlying27 Tryz.underlying5
  rw [size_extract' s 1 4 (by omega) (by omega)] at hcv hcell
  have c1 := hcell 0 (by omega)
  rw [bt_extract s 1 4 0 (by omega) (by omega)] at c1
  have c2 := hcell 1 (by omega)
  rw [bt_extract s 1 4 1 (by omega) (by omega)] at c2
  have c3 := hcell 2 (by omega)
  rw [bt_extract s 1 4 2 (by omega) (by omega)] at c3
  clear hcell
  have bl1 := PlainAid.bt_nonneg s 1
  have bh1 := PlainAid.bt_le s 1
  have m1 := u8_and63 (x := bt s 1) bl1 (by omega)
  have s1 := co_bits (bt s 1) bl1 (by omega)
  have bl2 := PlainAid.bt_nonneg s 2
  have bh2 := PlainAid.bt_le s 2
  have m2 := u8_and63 (x := bt s 2) bl2 (by omega)
  have s2 := co_bits (bt s 2) bl2 (by omega)
  have bl3 := PlainAid.bt_nonneg s 3
  have bh3 := PlainAid.bt_le s 3
  have m3 := u8_and63 (x := bt s 3) bl3 (by omega)
  have s3 := co_bits (bt s 3) bl3 (by omega)
  have m0 := u8_and7 (x := bt s 0) (by omega) (by omega)
  go_enter Tryz.func123, Tryz.ntmps123
  go_wp2_with fail
  refine wp_loop_rounds 4 ?_
  all_goals (try rw [rounds_succ])
  go_wp2
  all_goals (try rw [rounds_succ])
  go_wp2
  all_goals (try rw [rounds_succ])
  go_wp2
  all_goals (try rw [rounds_succ])
  go_wp2_with (first | (go_at_call 56; refine (scalar_any _ _).mono ?_; rintro e w' ⟨rfl, rfl⟩) | (go_at_call 124; refine (long_any _ _).mono ?_; rintro e w' ⟨rfl, rfl⟩))
  all_goals go_ret2
  all_goals refine ⟨?_, hb1⟩
  all_goals first
    | (have hc : ok4 s = true := by (unfold ok4; simp_all; done)
       rw [(HN.out.1 hc).1, (HN.out.1 hc).2]; rfl)
    | (have hc : ok4 s = true := by (unfold ok4; simp_all; omega)
       rw [(HN.out.1 hc).1, (HN.out.1 hc).2]; rfl)
    | (have hc : ok4 s = false := by (unfold ok4; simp_all; done)
       rw [(HN.out.2 hc).1, (HN.out.2 hc).2]; rfl)
    | (have hc : ok4 s = false := by (unfold ok4; simp_all; omega)
       rw [(HN.out.2 hc).1, (HN.out.2 hc).2]; rfl)
end Go.Proofs.YtlldoofclaokgaaGreat
namespace Go.Proofs.YtlldoofclaokgaaGreat
open Go.RowKit
open PlainAid (bt)

theorem empty_yes (s : ByteArray) (h : s.size = 0) : s.toList.isEmpty = true := by
  rw [← decide_eq_emptyBytes]
  exact decide_eq_true (ByteArray.size_eq_zero_iff.1 h)
theorem fm_none (s : ByteArray) (h : s.size = 0 ∨ (128 ≤ bt s 0 ∧ bt s 0 < 192) ∨ 248 ≤ bt s 0 ∨ (s.size < 2 ∧ 192 ≤ bt s 0) ∨ (s.size < 3 ∧ 224 ≤ bt s 0) ∨ (s.size < 4 ∧ 240 ≤ bt s 0)) : fmR s 0 = 0 ∧ fmN s 0 = 0 := by
  have z : s.size = 0 → bt s 0 = 0 := fun e => PlainAid.bt_end s (by omega)
  have k1 : is1 s 0 = false := by
    unfold is1
    by_cases a : 0 < s.size
    · rw [decide_eq_false (show ¬ bt s 0 < 128 by omega), Bool.and_false]
    · rw [decide_eq_false a, Bool.false_and]
  have k2 : is2 s 0 = false := by
    cases hh : is2 s 0
    · rfl
    · have q := hh
      simp only [is2, Bool.and_eq_true, decide_eq_true_eq] at q
      have := q.1.1.1; omega
  have k3 : is3 s 0 = false := by
    cases hh : is3 s 0
    · rfl
    · have q := hh
      simp only [is3, Bool.and_eq_true, decide_eq_true_eq] at q
      have := q.1.1.1.1; omega
  have k4 : is4 s 0 = false := by
    cases hh : is4 s 0
    · rfl
    · have q := hh
      simp only [is4, Bool.and_eq_true, decide_eq_true_eq] at q
      have := q.1.1.1.1.1; omega
  unfold fmR fmN
  rw [k1, k2, k3, k4]; exact ⟨rfl, rfl⟩
theorem fm_one (s : ByteArray) (h : 0 < s.size) (f1 : bt s 0 < 128) : fmR s 0 = bt s 0 ∧ fmN s 0 = 1 := by
  have k1 : is1 s 0 = true := by unfold is1; rw [decide_eq_true h, decide_eq_true f1]; rfl
  unfold fmR fmN
  rw [k1]; exact ⟨rfl, rfl⟩

set_option maxHeartbeats 1000000 in
set_option maxRecDepth 100000 in
theorem form_none (s : ByteArray) (w : World) (hs : s.size ≤ maxLen) (h : s.size = 0 ∨ (128 ≤ bt s 0 ∧ bt s 0 < 192) ∨ 248 ≤ bt s 0 ∨ (s.size < 2 ∧ 192 ≤ bt s 0) ∨ (s.size < 3 ∧ 224 ≤ bt s 0) ∨ (s.size < 4 ∧ 240 ≤ bt s 0)) :
    Calls Tryz.prog 123 #[.string s] w fun e w' => e = .returned (.tuple #[.int .i32 (fmR s 0), .int .i64 (fmN s 0)]) ∧ Below w.heap.size w w' := by
  rw [(fm_none s h).1, (fm_none s h).2]
  unfold maxLen at hs
  have hb := PlainAid.get_bt s
  have l0 := PlainAid.bt_nonneg s 0
  have l1 := PlainAid.bt_le s 0
  by_cases hz : s.size = 0
  · have hem := empty_yes s hz
    clear h hb hz
    go_enter Tryz.func123, Tryz.ntmps123
    go_wp2
    go_ret2
    exact ⟨rfl, Below.refl _ _⟩
  · have hem := empty_no s (by omega)
    have hz' : 0 < s.size := by omega
    have h' : (128 ≤ bt s 0 ∧ bt s 0 < 192) ∨ 248 ≤ bt s 0 ∨ (192 ≤ bt s 0 ∧ bt s 0 < 224 ∧ s.size < 2) ∨ (224 ≤ bt s 0 ∧ bt s 0 < 240 ∧ s.size < 3) ∨ (240 ≤ bt s 0 ∧ bt s 0 < 248 ∧ s.size < 4) := by omega
    clear h hz
    have m0 := fun h => u8_and31 (x := bt s 0) l0 h
    have m1 := fun h => u8_and15 (x := bt s 0) l0 h
    have m2 := fun h => u8_and7 (x := bt s 0) l0 h
    have m0 := m0 (by omega)
    have m1 := m1 (by omega)
    have m2 := m2 (by omega)
    rcases h' with ⟨a, b⟩ | a | ⟨a, b, c⟩ | ⟨a, b, c⟩ | ⟨a, b, c⟩
    all_goals
      go_enter Tryz.func123, Tryz.ntmps123
      go_wp2
      go_ret2
      exact ⟨rfl, Below.refl _ _⟩

set_option maxHeartbeats 1000000 in
set_option maxRecDepth 100000 in
theorem form_one (s : ByteArray) (w : World) (hs : s.size ≤ maxLen) (h : 0 < s.size) (f1 : bt s 0 < 128) :
    Calls Tryz.prog 123 #[.string s] w fun e w' => e = .returned (.tuple #[.int .i32 (fmR s 0), .int .i64 (fmN s 0)]) ∧ Below w.heap.size w w' := by
  rw [(fm_one s h f1).1, (fm_one s h f1).2]
  unfold maxLen at hs
  have hem := empty_no s (by omega)
  have hb := PlainAid.get_bt s
  have l0 := PlainAid.bt_nonneg s 0
  have hsc : sc (bt s 0) = true := by unfold sc; simp; omega
  have hlg : lg (bt s 0) = 1 := by unfold lg; rw [if_pos f1]
  obtain ⟨cap, w1, hcv, hcell, hb1, hz1⟩ := bytes_of (P := Tryz.prog) w 9 27 5 ByteArray.empty Tryz.underlying9 Tryz.underlying27 Tryz.underlying5
  rw [ByteArray.size_empty] at hcv
  clear hcell
  go_enter Tryz.func123, Tryz.ntmps123
  go_wp2_with fail
  refine wp_loop_rounds 1 ?_
  rw [rounds_succ]
  go_wp2_with (first | (go_at_call 56; refine (scalar_any _ _).mono ?_; rintro e w' ⟨rfl, rfl⟩) | (go_at_call 124; refine (long_any _ _).mono ?_; rintro e w' ⟨rfl, rfl⟩))
  all_goals go_ret2
  all_goals exact ⟨rfl, hb1⟩

theorem form_any (s : ByteArray) (w : World) (hs : s.size ≤ maxLen) :
    Calls Tryz.prog 123 #[.string s] w fun e w' => e = .returned (.tuple #[.int .i32 (fmR s 0), .int .i64 (fmN s 0)]) ∧ Below w.heap.size w w' := by
  by_cases hn : s.size = 0 ∨ (128 ≤ bt s 0 ∧ bt s 0 < 192) ∨ 248 ≤ bt s 0 ∨ (s.size < 2 ∧ 192 ≤ bt s 0) ∨ (s.size < 3 ∧ 224 ≤ bt s 0) ∨ (s.size < 4 ∧ 240 ≤ bt s 0)
  · exact form_none s w hs hn
  · by_cases h1 : bt s 0 < 128
    · exact form_one s w hs (by omega) h1
    · by_cases h2 : bt s 0 < 224
      · exact form_2 s w hs (by omega) (by omega) h2
      · by_cases h3 : bt s 0 < 240
        · exact form_3 s w hs (by omega) (by omega) h3
        · exact form_4 s w hs (by omega) (by omega) (by omega)
end Go.Proofs.YtlldoofclaokgaaGreat
namespace Go.Proofs.YtlldoofclaokgaaGreat
open Go.RowKit
open PlainAid (bt)

theorem fm_suffix (s : ByteArray) (a : Nat) (h : a < s.size) : fmR (s.extract a s.size) 0 = fmR s a ∧ fmN (s.extract a s.size) 0 = fmN s a := by
  have hle : a + fmN s a ≤ s.size := by
    by_cases e : fmN s a = 0
    · omega
    · exact fmN_size s a e
  exact (fm_piece s a s.size (Nat.le_refl _) (by omega)).1 hle

end Go.Proofs.YtlldoofclaokgaaGreat
