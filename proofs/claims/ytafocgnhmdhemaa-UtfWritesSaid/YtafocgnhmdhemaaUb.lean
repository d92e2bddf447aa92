/- form of package utf, at every text. -/
import Derived.Test.YtafocgnhmdhemaaUa
namespace Go.Proofs.Ytafocgnhmdhemaa
open Go.RowKit
open PlainAid (bt)

theorem empty_yes (s : ByteArray) (h : s.size = 0) : s.toList.isEmpty = true := by
  rw [← decide_eq_emptyBytes]
  exact decide_eq_true (ByteArray.size_eq_zero_iff.1 h)
theorem fm_none (s : ByteArray) (h : s.size = 0 ∨ (128 ≤ bt s 0 ∧ bt s 0 < 192) ∨ 248 ≤ bt s 0 ∨ (s.size < 2 ∧ 192 ≤ bt s 0) ∨ (s.size < 3 ∧ 224 ≤ bt s 0) ∨ (s.size < 4 ∧ 240 ≤ bt s 0)) : fmR s 0 = 0 ∧ fmN s 0 = 0 := by
  have z : s.size = 0 → bt s 0 = 0 := fun e => PlainAid.bt_end s (by omega)
  have k1 : is1 s 0 = false := by
    unfold is1
    by_cases a : 0 < s.size
    · rw [decide_eq_false (show ¬ bt s 0 < 128 by omega), Bool.and_false]
    · rw [decide_eq_false a, Bool.false_and]
  have k2 : is2 s 0 = false := by
    cases hh : is2 s 0
    · rfl
    · have q := hh
      simp only [is2, Bool.and_eq_true, decide_eq_true_eq] at q
      have := q.1.1.1; omega
  have k3 : is3 s 0 = false := by
    cases hh : is3 s 0
    · rfl
    · have q := hh
      simp only [is3, Bool.and_eq_true, decide_eq_true_eq] at q
      have := q.1.1.1.1; omega
  have k4 : is4 s 0 = false := by
    cases hh : is4 s 0
    · rfl
    · have q := hh
      simp only [is4, Bool.and_eq_true, decide_eq_true_eq] at q
      have := q.1.1.1.1.1; omega
  unfold fmR fmN
  rw [k1, k2, k3, k4]; exact ⟨rfl, rfl⟩
theorem fm_one (s : ByteArray) (h : 0 < s.size) (f1 : bt s 0 < 128) : fmR s 0 = bt s 0 ∧ fmN s 0 = 1 := by
  have k1 : is1 s 0 = true := by unfold is1; rw [decide_eq_true h, decide_eq_true f1]; rfl
  unfold fmR fmN
  rw [k1]; exact ⟨rfl, rfl⟩

set_option maxHeartbeats 1000000 in
set_option maxRecDepth 100000 in
theorem form_none (s : ByteArray) (w : World) (hs : s.size ≤ maxLen) (h : s.size = 0 ∨ (128 ≤ bt s 0 ∧ bt s 0 < 192) ∨ 248 ≤ bt s 0 ∨ (s.size < 2 ∧ 192 ≤ bt s 0) ∨ (s.size < 3 ∧ 224 ≤ bt s 0) ∨ (s.size < 4 ∧ 240 ≤ bt s 0)) :
    Calls Try.prog 31 #[.string s] w fun e w' => e = .returned (.tuple #[.int .i32 (fmR s 0), .int .i64 (fmN s 0)]) ∧ Below w.heap.size w w' := by
  rw [(fm_none s h).1, (fm_none s h).2]
  unfold maxLen at hs
  have hb := PlainAid.get_bt s
  have l0 := PlainAid.bt_nonneg s 0
  have l1 := PlainAid.bt_le s 0
  by_cases hz : s.size = 0
  · have hem := empty_yes s hz
    clear h hb hz
    go_enter Try.func31, Try.ntmps31
    go_wp2
    go_ret2
    exact ⟨rfl, Below.refl _ _⟩
  · have hem := empty_no s (by omega)
    have hz' : 0 < s.size := by omega
    have h' : (128 ≤ bt s 0 ∧ bt s 0 < 192) ∨ 248 ≤ bt s 0 ∨ (192 ≤ bt s 0 ∧ bt s 0 < 224 ∧ s.size < 2) ∨ (224 ≤ bt s 0 ∧ bt s 0 < 240 ∧ s.size < 3) ∨ (240 ≤ bt s 0 ∧ bt s 0 < 248 ∧ s.size < 4) := by omega
    clear h hz
    have m0 := fun h => u8_and31 (x := bt s 0) l0 h
    have m1 := fun h => u8_and15 (x := bt s 0) l0 h
    have m2 := fun h => u8_and7 (x := bt s 0) l0 h
    have m0 := m0 (by omega)
    have m1 := m1 (by omega)
    have m2 := m2 (by omega)
    rcases h' with ⟨a, b⟩ | a | ⟨a, b, c⟩ | ⟨a, b, c⟩ | ⟨a, b, c⟩
    all_goals
      go_enter Try.func31, Try.ntmps31
      go_wp2
      go_ret2
      exact ⟨rfl, Below.refl _ _⟩

set_option maxHeartbeats 1000000 in
set_option maxRecDepth 100000 in
theorem form_one (s : ByteArray) (w : World) (hs : s.size ≤ maxLen) (h : 0 < s.size) (f1 : bt s 0 < 128) :
    Calls Try.prog 31 #[.string s] w fun e w' => e = .returned (.tuple #[.int .i32 (fmR s 0), .int .i64 (fmN s 0)]) ∧ Below w.heap.size w w' := by
  rw [(fm_one s h f1).1, (fm_one s h f1).2]
  unfold maxLen at hs
  have hem := empty_no s (by omega)
  have hb := PlainAid.get_bt s
  have l0 := PlainAid.bt_nonneg s 0
  have hsc : sc (bt s 0) = true := by unfold sc; simp; omega
  have hlg : lg (bt s 0) = 1 := by unfold lg; rw [if_pos f1]
  obtain ⟨cap, w1, hcv, hcell, hb1, hz1⟩ := bytes_of (P := Try.prog) w 9 64 5 ByteArray.empty Try.underlying9 Try.underlying64 Try.underlying5
  rw [ByteArray.size_empty] at hcv
  clear hcell
  go_enter Try.func31, Try.ntmps31
  go_wp2_with fail
  refine wp_loop_rounds 1 ?_
  rw [rounds_succ]
  go_wp2_with (first | (go_at_call 18; refine (scalar_any _ _).mono ?_; rintro e w' ⟨rfl, rfl⟩) | (go_at_call 39; refine (long_any _ _).mono ?_; rintro e w' ⟨rfl, rfl⟩))
  all_goals go_ret2
  all_goals exact ⟨rfl, hb1⟩

theorem form_any (s : ByteArray) (w : World) (hs : s.size ≤ maxLen) :
    Calls Try.prog 31 #[.string s] w fun e w' => e = .returned (.tuple #[.int .i32 (fmR s 0), .int .i64 (fmN s 0)]) ∧ Below w.heap.size w w' := by
  by_cases hn : s.size = 0 ∨ (128 ≤ bt s 0 ∧ bt s 0 < 192) ∨ 248 ≤ bt s 0 ∨ (s.size < 2 ∧ 192 ≤ bt s 0) ∨ (s.size < 3 ∧ 224 ≤ bt s 0) ∨ (s.size < 4 ∧ 240 ≤ bt s 0)
  · exact form_none s w hs hn
  · by_cases h1 : bt s 0 < 128
    · exact form_one s w hs (by omega) h1
    · by_cases h2 : bt s 0 < 224
      · exact form_2 s w hs (by omega) (by omega) h2
      · by_cases h3 : bt s 0 < 240
        · exact form_3 s w hs (by omega) (by omega) h3
        · exact form_4 s w hs (by omega) (by omega) (by omega)
end Go.Proofs.Ytafocgnhmdhemaa
