/- UTF-8 in plain words: which scalar's form stands at a place of a text. form of package utf: the walk. form of package utf, at every text. Next and Last of package utf and of the reference: walks. -/
import Derived.Test.YtchjjfjjcdjjcaaGreatDoorBase
namespace Go.Proofs.YtchjjfjjcdjjcaaGreatDoor
open Go.RowKit
open PlainAid (bt)

end Go.Proofs.YtchjjfjjcdjjcaaGreatDoor
namespace Go.Proofs.YtchjjfjjcdjjcaaGreatDoor
open Go.RowKit
open PlainAid (bt)

theorem empty_no (s : ByteArray) (h : 0 < s.size) : s.toList.isEmpty = false := by
  rw [← decide_eq_emptyBytes]
  exact decide_eq_false (fun e => by rw [e] at h; exact absurd h (by decide))
theorem co_bits (b : Int) (h0 : 0 ≤ b) (h1 : b < 256) : (bits .and .u8 b 192 != 128) = !co b := by
  have : ∀ n : Fin 256, (bits .and .u8 (n.val : Int) 192 != 128) = !co (n.val : Int) := by decide +kernel
  have e := this ⟨b.toNat, by omega⟩
  have e2 : ((b.toNat : Nat) : Int) = b := by omega
  simp only [e2] at e
  exact e

set_option maxHeartbeats 400000 in
theorem scalar_any (r : Int) (w : World) :
    Calls Tryz.prog 39 #[.int .i32 r] w fun e w' => e = .returned (.bool (sc r)) ∧ w = w' := by
  go_enter Tryz.func39, Tryz.ntmps39
  go_wp2
  all_goals go_ret
  all_goals (refine ⟨?_, rfl⟩; simp_all [sc]; try omega)

set_option maxHeartbeats 400000 in
theorem long_any (r : Int) (w : World) :
    Calls Tryz.prog 82 #[.int .i32 r] w fun e w' => e = .returned (.int .i64 (lg r)) ∧ w = w' := by
  go_enter Tryz.func82, Tryz.ntmps82
  go_wp2
  all_goals go_ret
  all_goals (refine ⟨?_, rfl⟩; simp_all [lg]; try (repeat' split) <;> omega)
def ok2 (s : ByteArray) : Bool := co (bt s 1) && sc (bt s 0 % 32 * 64 + bt s 1 % 64) && decide (lg (bt s 0 % 32 * 64 + bt s 1 % 64) = 2)
theorem fm2 (s : ByteArray) (h : 2 ≤ s.size) (f0 : 192 ≤ bt s 0) (f1 : bt s 0 < 224) : (ok2 s = true → fmR s 0 = bt s 0 % 32 * 64 + bt s 1 % 64 ∧ fmN s 0 = 2) ∧ (ok2 s = false → fmR s 0 = 0 ∧ fmN s 0 = 0) := by
  obtain ⟨g1, g2, g3, g4⟩ := is_first s 0
  have n1 : is1 s 0 = false := by
    cases hh : is1 s 0
    · rfl
    · have := g1 hh; omega
  have n3 : is3 s 0 = false := by
    cases hh : is3 s 0
    · rfl
    · have := g3 hh; omega
  have n4 : is4 s 0 = false := by
    cases hh : is4 s 0
    · rfl
    · have := g4 hh; omega
  have e : is2 s 0 = ok2 s := by
    unfold is2 ok2 r2
    simp only [Nat.zero_add]
    rw [decide_eq_true h, decide_eq_true (show 192 ≤ bt s 0 ∧ bt s 0 < 224 from ⟨f0, f1⟩)]
    rfl
  unfold fmR fmN
  rw [n1, n3, n4, e]
  refine ⟨fun hk => ?_, fun hk => ?_⟩
  · rw [hk]; exact ⟨rfl, rfl⟩
  · rw [hk]; exact ⟨rfl, rfl⟩
def ok3 (s : ByteArray) : Bool := co (bt s 1) && co (bt s 2) && sc ((bt s 0 % 16 * 64 + bt s 1 % 64) * 64 + bt s 2 % 64) && decide (lg ((bt s 0 % 16 * 64 + bt s 1 % 64) * 64 + bt s 2 % 64) = 3)
theorem fm3 (s : ByteArray) (h : 3 ≤ s.size) (f0 : 224 ≤ bt s 0) (f1 : bt s 0 < 240) : (ok3 s = true → fmR s 0 = (bt s 0 % 16 * 64 + bt s 1 % 64) * 64 + bt s 2 % 64 ∧ fmN s 0 = 3) ∧ (ok3 s = false → fmR s 0 = 0 ∧ fmN s 0 = 0) := by
  obtain ⟨g1, g2, g3, g4⟩ := is_first s 0
  have n1 : is1 s 0 = false := by
    cases hh : is1 s 0
    · rfl
    · have := g1 hh; omega
  have n2 : is2 s 0 = false := by
    cases hh : is2 s 0
    · rfl
    · have := g2 hh; omega
  have n4 : is4 s 0 = false := by
    cases hh : is4 s 0
    · rfl
    · have := g4 hh; omega
  have e : is3 s 0 = ok3 s := by
    unfold is3 ok3 r3
    simp only [Nat.zero_add]
    rw [decide_eq_true h, decide_eq_true (show 224 ≤ bt s 0 ∧ bt s 0 < 240 from ⟨f0, f1⟩)]
    rfl
  unfold fmR fmN
  rw [n1, n2, n4, e]
  refine ⟨fun hk => ?_, fun hk => ?_⟩
  · rw [hk]; exact ⟨rfl, rfl⟩
  · rw [hk]; exact ⟨rfl, rfl⟩
def ok4 (s : ByteArray) : Bool := co (bt s 1) && co (bt s 2) && co (bt s 3) && sc (((bt s 0 % 8 * 64 + bt s 1 % 64) * 64 + bt s 2 % 64) * 64 + bt s 3 % 64) && decide (lg (((bt s 0 % 8 * 64 + bt s 1 % 64) * 64 + bt s 2 % 64) * 64 + bt s 3 % 64) = 4)
theorem fm4 (s : ByteArray) (h : 4 ≤ s.size) (f0 : 240 ≤ bt s 0) (f1 : bt s 0 < 248) : (ok4 s = true → fmR s 0 = ((bt s 0 % 8 * 64 + bt s 1 % 64) * 64 + bt s 2 % 64) * 64 + bt s 3 % 64 ∧ fmN s 0 = 4) ∧ (ok4 s = false → fmR s 0 = 0 ∧ fmN s 0 = 0) := by
  obtain ⟨g1, g2, g3, g4⟩ := is_first s 0
  have n1 : is1 s 0 = false := by
    cases hh : is1 s 0
    · rfl
    · have := g1 hh; omega
  have n2 : is2 s 0 = false := by
    cases hh : is2 s 0
    · rfl
    · have := g2 hh; omega
  have n3 : is3 s 0 = false := by
    cases hh : is3 s 0
    · rfl
    · have := g3 hh; omega
  have e : is4 s 0 = ok4 s := by
    unfold is4 ok4 r4
    simp only [Nat.zero_add]
    rw [decide_eq_true h, decide_eq_true (show 240 ≤ bt s 0 ∧ bt s 0 < 248 from ⟨f0, f1⟩)]
    rfl
  unfold fmR fmN
  rw [n1, n2, n3, e]
  refine ⟨fun hk => ?_, fun hk => ?_⟩
  · rw [hk]; exact ⟨rfl, rfl⟩
  · rw [hk]; exact ⟨rfl, rfl⟩

set_option maxHeartbeats 4000000 in
set_option maxRecDepth 100000 in
theorem form_2 (s : ByteArray) (w : World) (hs : s.size ≤ maxLen) (h : 2 ≤ s.size) (f0 : 192 ≤ bt s 0) (f1 : bt s 0 < 224) :
    Calls Tryz.prog 74 #[.string s] w fun e w' => e = .returned (.tuple #[.int .i32 (fmR s 0), .int .i64 (fmN s 0)]) ∧ Below w.heap.size w w' := by
  have HN := Lib.hid (fm2 s h f0 f1)
  unfold maxLen at hs
  have hem := empty_no s (by omega)
  have hb := PlainAid.get_bt s
  obtain ⟨cap, w1, hcv, hcell, hb1, hz1⟩ := bytes_of (P := Tryz.prog) w 9 54 5 (s.extract 1 2) Tryz.underlying9 Tryz.underlying54 Tryz.underlying5
  rw [size_extract' s 1 2 (by omega) (by omega)] at hcv hcell
  have c1 := hcell 0 (by omega)
  rw [bt_extract s 1 2 0 (by omega) (by omega)] at c1
  clear hcell
  have bl1 := PlainAid.bt_nonneg s 1
  have bh1 := PlainAid.bt_le s 1
  have m1 := u8_and63 (x := bt s 1) bl1 (by omega)
  have s1 := co_bits (bt s 1) bl1 (by omega)
  have m0 := u8_and31 (x := bt s 0) (by omega) (by omega)
  go_enter Tryz.func74, Tryz.ntmps74
  go_wp2_with fail
  refine wp_loop_rounds 2 ?_
  all_goals (try rw [rounds_succ])
  go_wp2
  all_goals (try rw [rounds_succ])
  go_wp2_with (first | (go_at_call 39; refine (scalar_any _ _).mono ?_; rintro e w' ⟨rfl, rfl⟩) | (go_at_call 82; refine (long_any _ _).mono ?_; rintro e w' ⟨rfl, rfl⟩))
  all_goals go_ret2
  all_goals refine ⟨?_, hb1⟩
  all_goals first
    | (have hc : ok2 s = true := by (unfold ok2; simp_all; done)
       rw [(HN.out.1 hc).1, (HN.out.1 hc).2]; rfl)
    | (have hc : ok2 s = true := by (unfold ok2; simp_all; omega)
       rw [(HN.out.1 hc).1, (HN.out.1 hc).2]; rfl)
    | (have hc : ok2 s = false := by (unfold ok2; simp_all; done)
       rw [(HN.out.2 hc).1, (HN.out.2 hc).2]; rfl)
    | (have hc : ok2 s = false := by (unfold ok2; simp_all; omega)
       rw [(HN.out.2 hc).1, (HN.out.2 hc).2]; rfl)

set_option maxHeartbeats 4000000 in
set_option maxRecDepth 100000 in
theorem form_3 (s : ByteArray) (w : World) (hs : s.size ≤ maxLen) (h : 3 ≤ s.size) (f0 : 224 ≤ bt s 0) (f1 : bt s 0 < 240) :
    Calls Tryz.prog 74 #[.string s] w fun e w' => e = .returned (.tuple #[.int .i32 (fmR s 0), .int .i64 (fmN s 0)]) ∧ Below w.heap.size w w' := by
  have HN := Lib.hid (fm3 s h f0 f1)
  unfold maxLen at hs
  have hem := empty_no s (by omega)
  have hb := PlainAid.get_bt s
  obtain ⟨cap, w1, hcv, hcell, hb1, hz1⟩ := bytes_of (P := Tryz.prog) w 9 54 5 (s.extract 1 3) Tryz.underlying9 Tryz.underlying54 Tryz.underlying5
  rw [size_extract' s 1 3 (by omega) (by omega)] at hcv hcell
  have c1 := hcell 0 (by omega)
  rw [bt_extract s 1 3 0 (by omega) (by omega)] at c1
  have c2 := hcell 1 (by omega)
  rw [bt_extract s 1 3 1 (by omega) (by omega)] at c2
  clear hcell
  have bl1 := PlainAid.bt_nonneg s 1
  have bh1 := PlainAid.bt_le s 1
  have m1 := u8_and63 (x := bt s 1) bl1 (by omega)
  have s1 := co_bits (bt s 1) bl1 (by omega)
  have bl2 := PlainAid.bt_nonneg s 2
  have bh2 := PlainAid.bt_le s 2
  have m2 := u8_and63 (x := bt s 2) bl2 (by omega)
  have s2 := co_bits (bt s 2) bl2 (by omega)
  have m0 := u8_and15 (x := bt s 0) (by omega) (by omega)
  go_enter Tryz.func74, Tryz.ntmps74
  go_wp2_with fail
  refine wp_loop_rounds 3 ?_
  all_goals (try rw [rounds_succ])
  go_wp2
  all_goals (try rw [rounds_succ])
  go_wp2
  all_goals (try rw [rounds_succ])
  go_wp2_with (first | (go_at_call 39; refine (scalar_any _ _).mono ?_; rintro e w' ⟨rfl, rfl⟩) | (go_at_call 82; refine (long_any _ _).mono ?_; rintro e w' ⟨rfl, rfl⟩))
  all_goals go_ret2
  all_goals refine ⟨?_, hb1⟩
  all_goals first
    | (have hc : ok3 s = true := by (unfold ok3; simp_all; done)
       rw [(HN.out.1 hc).1, (HN.out.1 hc).2]; rfl)
    | (have hc : ok3 s = true := by (unfold ok3; simp_all; omega)
       rw [(HN.out.1 hc).1, (HN.out.1 hc).2]; rfl)
    | (have hc : ok3 s = false := by (unfold ok3; simp_all; done)
       rw [(HN.out.2 hc).1, (HN.out.2 hc).2]; rfl)
    | (have hc : ok3 s = false := by (unfold ok3; simp_all; omega)
       rw [(HN.out.2 hc).1, (HN.out.2 hc).2]; rfl)

set_option maxHeartbeats 4000000 in
set_option maxRecDepth 100000 in
theorem form_4 (s : ByteArray) (w : World) (hs : s.size ≤ maxLen) (h : 4 ≤ s.size) (f0 : 240 ≤ bt s 0) (f1 : bt s 0 < 248) :
    Calls Tryz.prog 74 #[.string s] w fun e w' => e = .returned (.tuple #[.int .i32 (fmR s 0), .int .i64 (fmN s 0)]) ∧ Below w.heap.size w w' := by
  have HN := Lib.hid (fm4 s h f0 f1)
  unfold maxLen at hs
  have hem := empty_no s (by omega)
  have hb := PlainAid.get_bt s
  obtain ⟨cap, w1, hcv, hcell, hb1, hz1⟩ := bytes_of (P := Tryz.prog) w 9 54 5 (s.extract 1 4) Tryz.underlying9 Tryz.underlying54 Tryz.underlying5
  rw [size_extract' s 1 4 (by omega) (by omega)] at hcv hcell
  have c1 := hcell 0 (by omega)
  rw [bt_extract s 1 4 0 (by omega) (by omega)] at c1
  have c2 := hcell 1 (by omega)
  rw [bt_extract s 1 4 1 (by omega) (by omega)] at c2
  have c3 := hcell 2 (by omega)
  rw [bt_extract s 1 4 2 (by omega) (by omega)] at c3
  clear hcell
  have bl1 := PlainAid.bt_nonneg s 1
  have bh1 := PlainAid.bt_le s 1
  have m1 := u8_and63 (x := bt s 1) bl1 (by omega)
  have s1 := co_bits (bt s 1) bl1 (by omega)
  have bl2 := PlainAid.bt_nonneg s 2
  have bh2 := PlainAid.bt_le s 2
  have m2 := u8_and63 (x := bt s 2) bl2 (by omega)
  have s2 := co_bits (bt s 2) bl2 (by omega)
  have bl3 := PlainAid.bt_nonneg s 3
  have bh3 := PlainAid.bt_le s 3
  have m3 := u8_and63 (x := bt s 3) bl3 (by omega)
  have s3 := co_bits (bt s 3) bl3 (by omega)
  have m0 := u8_and7 (x := bt s 0) (by omega) (by omega)
  go_enter Tryz.func74, Tryz.ntmps74
  go_wp2_with fail
  refine wp_loop_rounds 4 ?_
  all_goals (try rw [rounds_succ])
  go_wp2
  all_goals (try rw [rounds_succ])
  go_wp2
  all_goals (try rw [rounds_succ])
  go_wp2
  all_goals (try rw [rounds_succ])
  go_wp2_with (first | (go_at_call 39; refine (scalar_any _ _).mono ?_; rintro e w' ⟨rfl, rfl⟩) | (go_at_call 82; refine (long_any _ _).mono ?_; rintro e w' ⟨rfl, rfl⟩))
  all_goals go_ret2
  all_goals refine ⟨?_, hb1⟩
  all_goals first
    | (have hc : ok4 s = true := by (unfold ok4; simp_all; done)
       rw [(HN.out.1 hc).1, (HN.out.1 hc).2]; rfl)
    | (have hc : ok4 s = true := by (unfold ok4; simp_all; omega)
       rw [(HN.out.1 hc).1, (HN.out.1 hc).2]; rfl)
    | (have hc : ok4 s = false := by (unfold ok4; simp_all; done)
       rw [(HN.out.2 hc).1, (HN.out.2 hc).2]; rfl)
    | (have hc : ok4 s = false := by (unfold ok4; simp_all; omega)
       rw [(HN.out.2 hc).1, (HN.out.2 hc).2]; rfl)
end Go.Proofs.YtchjjfjjcdjjcaaGreatDoor
namespace Go.Proofs.YtchjjfjjcdjjcaaGreatDoor
open Go.RowKit
open PlainAid (bt)

theorem empty_yes (s : ByteArray) (h : s.size = 0) : s.toList.isEmpty = true := by
  rw [← decide_eq_emptyBytes]
  exact decide_eq_true (ByteArray.size_eq_zero_iff.1 h)
theorem fm_none (s : ByteArray) (h : s.size = 0 ∨ (128 ≤ bt s 0 ∧ bt s 0 < 192) ∨ 248 ≤ bt s 0 ∨ (s.size < 2 ∧ 192 ≤ bt s 0) ∨ (s.size < 3 ∧ 224 ≤ bt s 0) ∨ (s.size < 4 ∧ 240 ≤ bt s 0)) : fmR s 0 = 0 ∧ fmN s 0 = 0 := by
  have z : s.size = 0 → bt s 0 = 0 := fun e => PlainAid.bt_end s (by omega)
  have k1 : is1 s 0 = false := by
    unfold is1
    by_cases a : 0 < s.size
    · rw [decide_eq_false (show ¬ bt s 0 < 128 by omega), Bool.and_false]
    · rw [decide_eq_false a, Bool.false_and]
  have k2 : is2 s 0 = false := by
    cases hh : is2 s 0
    · rfl
    · have q := hh
      simp only [is2, Bool.and_eq_true, decide_eq_true_eq] at q
      have := q.1.1.1; omega
  have k3 : is3 s 0 = false := by
    cases hh : is3 s 0
    · rfl
    · have q := hh
      simp only [is3, Bool.and_eq_true, decide_eq_true_eq] at q
      have := q.1.1.1.1; omega
  have k4 : is4 s 0 = false := by
    cases hh : is4 s 0
    · rfl
    · have q := hh
      simp only [is4, Bool.and_eq_true, decide_eq_true_eq] at q
      have := q.1.1.1.1.1; omega
  unfold fmR fmN
  rw [k1, k2, k3, k4]; exact ⟨rfl, rfl⟩
theorem fm_one (s : ByteArray) (h : 0 < s.size) (f1 : bt s 0 < 128) : fmR s 0 = bt s 0 ∧ fmN s 0 = 1 := by
  have k1 : is1 s 0 = true := by unfold is1; rw [decide_eq_true h, decide_eq_true f1]; rfl
  unfold fmR fmN
  rw [k1]; exact ⟨rfl, rfl⟩

set_option maxHeartbeats 1000000 in
set_option maxRecDepth 100000 in
theorem form_none (s : ByteArray) (w : World) (hs : s.size ≤ maxLen) (h : s.size = 0 ∨ (128 ≤ bt s 0 ∧ bt s 0 < 192) ∨ 248 ≤ bt s 0 ∨ (s.size < 2 ∧ 192 ≤ bt s 0) ∨ (s.size < 3 ∧ 224 ≤ bt s 0) ∨ (s.size < 4 ∧ 240 ≤ bt s 0)) :
    Calls Tryz.prog 74 #[.string s] w fun e w' => e = .returned (.tuple #[.int .i32 (fmR s 0), .int .i64 (fmN s 0)]) ∧ Below w.heap.size w w' := by
  rw [(fm_none s h).1, (fm_none s h).2]
  unfold maxLen at hs
  have hb := PlainAid.get_bt s
  have l0 := PlainAid.bt_nonneg s 0
  have l1 := PlainAid.bt_le s 0
  by_cases hz : s.size = 0
  · have hem := empty_yes s hz
    clear h hb hz
    go_enter Tryz.func74, Tryz.ntmps74
    go_wp2
    go_ret2
    exact ⟨rfl, Below.refl _ _⟩
  · have hem := empty_no s (by omega)
    have hz' : 0 < s.size := by omega
    have h' : (128 ≤ bt s 0 ∧ bt s 0 < 192) ∨ 248 ≤ bt s 0 ∨ (192 ≤ bt s 0 ∧ bt s 0 < 224 ∧ s.size < 2) ∨ (224 ≤ bt s 0 ∧ bt s 0 < 240 ∧ s.size < 3) ∨ (240 ≤ bt s 0 ∧ bt s 0 < 248 ∧ s.size < 4) := by omega
    clear h hz
    have m0 := fun h => u8_and31 (x := bt s 0) l0 h
    have m1 := fun h => u8_and15 (x := bt s 0) l0 h
    have m2 := fun h => u8_and7 (x := bt s 0) l0 h
    have m0 := m0 (by omega)
    have m1 := m1 (by omega)
    have m2 := m2 (by omega)
    rcases h' with ⟨a, b⟩ | a | ⟨a, b, c⟩ | ⟨a, b, c⟩ | ⟨a, b, c⟩
    all_goals
      go_enter Tryz.func74, Tryz.ntmps74
      go_wp2
      go_ret2
      exact ⟨rfl, Below.refl _ _⟩

set_option maxHeartbeats 1000000 in
set_option maxRecDepth 100000 in
theorem form_one (s : ByteArray) (w : World) (hs : s.size ≤ maxLen) (h : 0 < s.size) (f1 : bt s 0 < 128) :
    Calls Tryz.prog 74 #[.string s] w fun e w' => e = .returned (.tuple #[.int .i32 (fmR s 0), .int .i64 (fmN s 0)]) ∧ Below w.heap.size w w' := by
  rw [(fm_one s h f1).1, (fm_one s h f1).2]
  unfold maxLen at hs
  have hem := empty_no s (by omega)
  have hb := PlainAid.get_bt s
  have l0 := PlainAid.bt_nonneg s 0
  have hsc : sc (bt s 0) = true := by unfold sc; simp; omega
  have hlg : lg (bt s 0) = 1 := by unfold lg; rw [if_pos f1]
  obtain ⟨cap, w1, hcv, hcell, hb1, hz1⟩ := bytes_of (P := Tryz.prog) w 9 54 5 ByteArray.empty Tryz.underlying9 Tryz.underlying54 Tryz.underlying5
  rw [ByteArray.size_empty] at hcv
  clear hcell
  go_enter Tryz.func74, Tryz.ntmps74
  go_wp2_with fail
  refine wp_loop_rounds 1 ?_
  rw [rounds_succ]
  go_wp2_with (first | (go_at_call 39; refine (scalar_any _ _).mono ?_; rintro e w' ⟨rfl, rfl⟩) | (go_at_call 82; refine (long_any _ _).mono ?_; rintro e w' ⟨rfl, rfl⟩))
  all_goals go_ret2
  all_goals exact ⟨rfl, hb1⟩

theorem form_any (s : ByteArray) (w : World) (hs : s.size ≤ maxLen) :
    Calls Tryz.prog 74 #[.string s] w fun e w' => e = .returned (.tuple #[.int .i32 (fmR s 0), .int .i64 (fmN s 0)]) ∧ Below w.heap.size w w' := by
  by_cases hn : s.size = 0 ∨ (128 ≤ bt s 0 ∧ bt s 0 < 192) ∨ 248 ≤ bt s 0 ∨ (s.size < 2 ∧ 192 ≤ bt s 0) ∨ (s.size < 3 ∧ 224 ≤ bt s 0) ∨ (s.size < 4 ∧ 240 ≤ bt s 0)
  · exact form_none s w hs hn
  · by_cases h1 : bt s 0 < 128
    · exact form_one s w hs (by omega) h1
    · by_cases h2 : bt s 0 < 224
      · exact form_2 s w hs (by omega) (by omega) h2
      · by_cases h3 : bt s 0 < 240
        · exact form_3 s w hs (by omega) (by omega) h3
        · exact form_4 s w hs (by omega) (by omega) (by omega)
end Go.Proofs.YtchjjfjjcdjjcaaGreatDoor
namespace Go.Proofs.YtchjjfjjcdjjcaaGreatDoor
open Go.RowKit
open PlainAid (bt)

theorem fm_suffix (s : ByteArray) (a : Nat) (h : a < s.size) : fmR (s.extract a s.size) 0 = fmR s a ∧ fmN (s.extract a s.size) 0 = fmN s a := by
  have hle : a + fmN s a ≤ s.size := by
    by_cases e : fmN s a = 0
    · omega
    · exact fmN_size s a e
  exact (fm_piece s a s.size (Nat.le_refl _) (by omega)).1 hle

end Go.Proofs.YtchjjfjjcdjjcaaGreatDoor
