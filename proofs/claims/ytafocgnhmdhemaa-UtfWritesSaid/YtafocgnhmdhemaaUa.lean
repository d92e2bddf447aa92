/- form of package utf: the walk. -/
import Derived.Test.YtafocgnhmdhemaaUspec
namespace Go.Proofs.Ytafocgnhmdhemaa
open Go.RowKit
open PlainAid (bt)

theorem empty_no (s : ByteArray) (h : 0 < s.size) : s.toList.isEmpty = false := by
  rw [← decide_eq_emptyBytes]
  exact decide_eq_false (fun e => by rw [e] at h; exact absurd h (by decide))
theorem co_bits (b : Int) (h0 : 0 ≤ b) (h1 : b < 256) : (bits .and .u8 b 192 != 128) = !co b := by
  have : ∀ n : Fin 256, (bits .and .u8 (n.val : Int) 192 != 128) = !co (n.val : Int) := by decide +kernel
  have e := this ⟨b.toNat, by omega⟩
  have e2 : ((b.toNat : Nat) : Int) = b := by omega
  simp only [e2] at e
  exact e

set_option maxHeartbeats 400000 in
theorem scalar_any (r : Int) (w : World) :
    Calls Try.prog 18 #[.int .i32 r] w fun e w' => e = .returned (.bool (sc r)) ∧ w = w' := by
  go_enter Try.func18, Try.ntmps18
  go_wp2
  all_goals go_ret
  all_goals (refine ⟨?_, rfl⟩; simp_all [sc]; try omega)

set_option maxHeartbeats 400000 in
theorem long_any (r : Int) (w : World) :
    Calls Try.prog 39 #[.int .i32 r] w fun e w' => e = .returned (.int .i64 (lg r)) ∧ w = w' := by
  go_enter Try.func39, Try.ntmps39
  go_wp2
  all_goals go_ret
  all_goals (refine ⟨?_, rfl⟩; simp_all [lg]; try (repeat' split) <;> omega)
def ok2 (s : ByteArray) : Bool := co (bt s 1) && sc (bt s 0 % 32 * 64 + bt s 1 % 64) && decide (lg (bt s 0 % 32 * 64 + bt s 1 % 64) = 2)
theorem fm2 (s : ByteArray) (h : 2 ≤ s.size) (f0 : 192 ≤ bt s 0) (f1 : bt s 0 < 224) : (ok2 s = true → fmR s 0 = bt s 0 % 32 * 64 + bt s 1 % 64 ∧ fmN s 0 = 2) ∧ (ok2 s = false → fmR s 0 = 0 ∧ fmN s 0 = 0) := by
  obtain ⟨g1, g2, g3, g4⟩ := is_first s 0
  have n1 : is1 s 0 = false := by
    cases hh : is1 s 0
    · rfl
    · have := g1 hh; omega
  have n3 : is3 s 0 = false := by
    cases hh : is3 s 0
    · rfl
    · have := g3 hh; omega
  have n4 : is4 s 0 = false := by
    cases hh : is4 s 0
    · rfl
    · have := g4 hh; omega
  have e : is2 s 0 = ok2 s := by
    unfold is2 ok2 r2
    simp only [Nat.zero_add]
    rw [decide_eq_true h, decide_eq_true (show 192 ≤ bt s 0 ∧ bt s 0 < 224 from ⟨f0, f1⟩)]
    rfl
  unfold fmR fmN
  rw [n1, n3, n4, e]
  refine ⟨fun hk => ?_, fun hk => ?_⟩
  · rw [hk]; exact ⟨rfl, rfl⟩
  · rw [hk]; exact ⟨rfl, rfl⟩
def ok3 (s : ByteArray) : Bool := co (bt s 1) && co (bt s 2) && sc ((bt s 0 % 16 * 64 + bt s 1 % 64) * 64 + bt s 2 % 64) && decide (lg ((bt s 0 % 16 * 64 + bt s 1 % 64) * 64 + bt s 2 % 64) = 3)
theorem fm3 (s : ByteArray) (h : 3 ≤ s.size) (f0 : 224 ≤ bt s 0) (f1 : bt s 0 < 240) : (ok3 s = true → fmR s 0 = (bt s 0 % 16 * 64 + bt s 1 % 64) * 64 + bt s 2 % 64 ∧ fmN s 0 = 3) ∧ (ok3 s = false → fmR s 0 = 0 ∧ fmN s 0 = 0) := by
  obtain ⟨g1, g2, g3, g4⟩ := is_first s 0
  have n1 : is1 s 0 = false := by
    cases hh : is1 s 0
    · rfl
    · have := g1 hh; omega
  have n2 : is2 s 0 = false := by
    cases hh : is2 s 0
    · rfl
    · have := g2 hh; omega
  have n4 : is4 s 0 = false := by
    cases hh : is4 s 0
    · rfl
    · have := g4 hh; omega
  have e : is3 s 0 = ok3 s := by
    unfold is3 ok3 r3
    simp only [Nat.zero_add]
    rw [decide_eq_true h, decide_eq_true (show 224 ≤ bt s 0 ∧ bt s 0 < 240 from ⟨f0, f1⟩)]
    rfl
  unfold fmR fmN
  rw [n1, n2, n4, e]
  refine ⟨fun hk => ?_, fun hk => ?_⟩
  · rw [hk]; exact ⟨rfl, rfl⟩
  · rw [hk]; exact ⟨rfl, rfl⟩
def ok4 (s : ByteArray) : Bool := co (bt s 1) && co (bt s 2) && co (bt s 3) && sc (((bt s 0 % 8 * 64 + bt s 1 % 64) * 64 + bt s 2 % 64) * 64 + bt s 3 % 64) && decide (lg (((bt s 0 % 8 * 64 + bt s 1 % 64) * 64 + bt s 2 % 64) * 64 + bt s 3 % 64) = 4)
theorem fm4 (s : ByteArray) (h : 4 ≤ s.size) (f0 : 240 ≤ bt s 0) (f1 : bt s 0 < 248) : (ok4 s = true → fmR s 0 = ((bt s 0 % 8 * 64 + bt s 1 % 64) * 64 + bt s 2 % 64) * 64 + bt s 3 % 64 ∧ fmN s 0 = 4) ∧ (ok4 s = false → fmR s 0 = 0 ∧ fmN s 0 = 0) := by
  obtain ⟨g1, g2, g3, g4⟩ := is_first s 0
  have n1 : is1 s 0 = false := by
    cases hh : is1 s 0
    · rfl
    · have := g1 hh; omega
  have n2 : is2 s 0 = false := by
    cases hh : is2 s 0
    · rfl
    · have := g2 hh; omega
  have n3 : is3 s 0 = false := by
    cases hh : is3 s 0
    · rfl
    · have := g3 hh; omega
  have e : is4 s 0 = ok4 s := by
    unfold is4 ok4 r4
    simp only [Nat.zero_add]
    rw [decide_eq_true h, decide_eq_true (show 240 ≤ bt s 0 ∧ bt s 0 < 248 from ⟨f0, f1⟩)]
    rfl
  unfold fmR fmN
  rw [n1, n2, n3, e]
  refine ⟨fun hk => ?_, fun hk => ?_⟩
  · rw [hk]; exact ⟨rfl, rfl⟩
  · rw [hk]; exact ⟨rfl, rfl⟩

set_option maxHeartbeats 4000000 in
set_option maxRecDepth 100000 in
theorem form_2 (s : ByteArray) (w : World) (hs : s.size ≤ maxLen) (h : 2 ≤ s.size) (f0 : 192 ≤ bt s 0) (f1 : bt s 0 < 224) :
    Calls Try.prog 31 #[.string s] w fun e w' => e = .returned (.tuple #[.int .i32 (fmR s 0), .int .i64 (fmN s 0)]) ∧ Below w.heap.size w w' := by
  have HN := Lib.hid (fm2 s h f0 f1)
  unfold maxLen at hs
  have hem := empty_no s (by omega)
  have hb := PlainAid.get_bt s
  obtain ⟨cap, w1, hcv, hcell, hb1, hz1⟩ := bytes_of (P := Try.prog) w 9 64 5 (s.extract 1 2) Try.underlying9 Try.underlying64 Try.underlying5
  rw [size_extract' s 1 2 (by omega) (by omega)] at hcv hcell
  have c1 := hcell 0 (by omega)
  rw [bt_extract s 1 2 0 (by omega) (by omega)] at c1
  clear hcell
  have bl1 := PlainAid.bt_nonneg s 1
  have bh1 := PlainAid.bt_le s 1
  have m1 := u8_and63 (x := bt s 1) bl1 (by omega)
  have s1 := co_bits (bt s 1) bl1 (by omega)
  have m0 := u8_and31 (x := bt s 0) (by omega) (by omega)
  go_enter Try.func31, Try.ntmps31
  go_wp2_with fail
  refine wp_loop_rounds 2 ?_
  all_goals (try rw [rounds_succ])
  go_wp2
  all_goals (try rw [rounds_succ])
  go_wp2_with (first | (go_at_call 18; refine (scalar_any _ _).mono ?_; rintro e w' ⟨rfl, rfl⟩) | (go_at_call 39; refine (long_any _ _).mono ?_; rintro e w' ⟨rfl, rfl⟩))
  all_goals go_ret2
  all_goals refine ⟨?_, hb1⟩
  all_goals first
    | (have hc : ok2 s = true := by (unfold ok2; simp_all; done)
       rw [(HN.out.1 hc).1, (HN.out.1 hc).2]; rfl)
    | (have hc : ok2 s = true := by (unfold ok2; simp_all; omega)
       rw [(HN.out.1 hc).1, (HN.out.1 hc).2]; rfl)
    | (have hc : ok2 s = false := by (unfold ok2; simp_all; done)
       rw [(HN.out.2 hc).1, (HN.out.2 hc).2]; rfl)
    | (have hc : ok2 s = false := by (unfold ok2; simp_all; omega)
       rw [(HN.out.2 hc).1, (HN.out.2 hc).2]; rfl)

set_option maxHeartbeats 4000000 in
set_option maxRecDepth 100000 in
theorem form_3 (s : ByteArray) (w : World) (hs : s.size ≤ maxLen) (h : 3 ≤ s.size) (f0 : 224 ≤ bt s 0) (f1 : bt s 0 < 240) :
    Calls Try.prog 31 #[.string s] w fun e w' => e = .returned (.tuple #[.int .i32 (fmR s 0), .int .i64 (fmN s 0)]) ∧ Below w.heap.size w w' := by
  have HN := Lib.hid (fm3 s h f0 f1)
  unfold maxLen at hs
  have hem := empty_no s (by omega)
  have hb := PlainAid.get_bt s
  obtain ⟨cap, w1, hcv, hcell, hb1, hz1⟩ := bytes_of (P := Try.prog) w 9 64 5 (s.extract 1 3) Try.underlying9 Try.underlying64 Try.underlying5
  rw [size_extract' s 1 3 (by omega) (by omega)] at hcv hcell
  have c1 := hcell 0 (by omega)
  rw [bt_extract s 1 3 0 (by omega) (by omega)] at c1
  have c2 := hcell 1 (by omega)
  rw [bt_extract s 1 3 1 (by omega) (by omega)] at c2
  clear hcell
  have bl1 := PlainAid.bt_nonneg s 1
  have bh1 := PlainAid.bt_le s 1
  have m1 := u8_and63 (x := bt s 1) bl1 (by omega)
  have s1 := co_bits (bt s 1) bl1 (by omega)
  have bl2 := PlainAid.bt_nonneg s 2
  have bh2 := PlainAid.bt_le s 2
  have m2 := u8_and63 (x := bt s 2) bl2 (by omega)
  have s2 := co_bits (bt s 2) bl2 (by omega)
  have m0 := u8_and15 (x := bt s 0) (by omega) (by omega)
  go_enter Try.func31, Try.ntmps31
  go_wp2_with fail
  refine wp_loop_rounds 3 ?_
  all_goals (try rw [rounds_succ])
  go_wp2
  all_goals (try rw [rounds_succ])
  go_wp2
  all_goals (try rw [rounds_succ])
  go_wp2_with (first | (go_at_call 18; refine (scalar_any _ _).mono ?_; rintro e w' ⟨rfl, rfl⟩) | (go_at_call 39; refine (long_any _ _).mono ?_; rintro e w' ⟨rfl, rfl⟩))
  all_goals go_ret2
  all_goals refine ⟨?_, hb1⟩
  all_goals first
    | (have hc : ok3 s = true := by (unfold ok3; simp_all; done)
       rw [(HN.out.1 hc).1, (HN.out.1 hc).2]; rfl)
    | (have hc : ok3 s = true := by (unfold ok3; simp_all; omega)
       rw [(HN.out.1 hc).1, (HN.out.1 hc).2]; rfl)
    | (have hc : ok3 s = false := by (unfold ok3; simp_all; done)
       rw [(HN.out.2 hc).1, (HN.out.2 hc).2]; rfl)
    | (have hc : ok3 s = false := by (unfold ok3; simp_all; omega)
       rw [(HN.out.2 hc).1, (HN.out.2 hc).2]; rfl)

set_option maxHeartbeats 4000000 in
set_option maxRecDepth 100000 in
theorem form_4 (s : ByteArray) (w : World) (hs : s.size ≤ maxLen) (h : 4 ≤ s.size) (f0 : 240 ≤ bt s 0) (f1 : bt s 0 < 248) :
    Calls Try.prog 31 #[.string s] w fun e w' => e = .returned (.tuple #[.int .i32 (fmR s 0), .int .i64 (fmN s 0)]) ∧ Below w.heap.size w w' := by
  have HN := Lib.hid (fm4 s h f0 f1)
  unfold maxLen at hs
  have hem := empty_no s (by omega)
  have hb := PlainAid.get_bt s
  obtain ⟨cap, w1, hcv, hcell, hb1, hz1⟩ := bytes_of (P := Try.prog) w 9 64 5 (s.extract 1 4) Try.underlying9 Try.underlying64 Try.underlying5
  rw [size_extract' s 1 4 (by omega) (by omega)] at hcv hcell
  have c1 := hcell 0 (by omega)
  rw [bt_extract s 1 4 0 (by omega) (by omega)] at c1
  have c2 := hcell 1 (by omega)
  rw [bt_extract s 1 4 1 (by omega) (by omega)] at c2
  have c3 := hcell 2 (by omega)
  rw [bt_extract s 1 4 2 (by omega) (by omega)] at c3
  clear hcell
  have bl1 := PlainAid.bt_nonneg s 1
  have bh1 := PlainAid.bt_le s 1
  have m1 := u8_and63 (x := bt s 1) bl1 (by omega)
  have s1 := co_bits (bt s 1) bl1 (by omega)
  have bl2 := PlainAid.bt_nonneg s 2
  have bh2 := PlainAid.bt_le s 2
  have m2 := u8_and63 (x := bt s 2) bl2 (by omega)
  have s2 := co_bits (bt s 2) bl2 (by omega)
  have bl3 := PlainAid.bt_nonneg s 3
  have bh3 := PlainAid.bt_le s 3
  have m3 := u8_and63 (x := bt s 3) bl3 (by omega)
  have s3 := co_bits (bt s 3) bl3 (by omega)
  have m0 := u8_and7 (x := bt s 0) (by omega) (by omega)
  go_enter Try.func31, Try.ntmps31
  go_wp2_with fail
  refine wp_loop_rounds 4 ?_
  all_goals (try rw [rounds_succ])
  go_wp2
  all_goals (try rw [rounds_succ])
  go_wp2
  all_goals (try rw [rounds_succ])
  go_wp2
  all_goals (try rw [rounds_succ])
  go_wp2_with (first | (go_at_call 18; refine (scalar_any _ _).mono ?_; rintro e w' ⟨rfl, rfl⟩) | (go_at_call 39; refine (long_any _ _).mono ?_; rintro e w' ⟨rfl, rfl⟩))
  all_goals go_ret2
  all_goals refine ⟨?_, hb1⟩
  all_goals first
    | (have hc : ok4 s = true := by (unfold ok4; simp_all; done)
       rw [(HN.out.1 hc).1, (HN.out.1 hc).2]; rfl)
    | (have hc : ok4 s = true := by (unfold ok4; simp_all; omega)
       rw [(HN.out.1 hc).1, (HN.out.1 hc).2]; rfl)
    | (have hc : ok4 s = false := by (unfold ok4; simp_all; done)
       rw [(HN.out.2 hc).1, (HN.out.2 hc).2]; rfl)
    | (have hc : ok4 s = false := by (unfold ok4; simp_all; omega)
       rw [(HN.out.2 hc).1, (HN.out.2 hc).2]; rfl)
end Go.Proofs.Ytafocgnhmdhemaa
