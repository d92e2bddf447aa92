/- Read of the reference of package weight. -/
import Derived.Test.YtobblnpldphclaaWh
namespace Go.Proofs.Ytobblnpldphclaa
open Go.RowKit
open PlainAid (bt)

theorem goodB_len (s : ByteArray) (h : s.size < 17) : goodB s = false := by
  unfold goodB; rw [decide_eq_false (by omega)]; rfl
theorem goodB_head (s : ByteArray) (h : headB s = false) : goodB s = false := by
  unfold goodB; rw [h]; simp
theorem goodB_dig (s : ByteArray) (h : digB s = false) : goodB s = false := by
  unfold goodB; rw [h]; simp

set_option maxHeartbeats 2000000 in
set_option maxRecDepth 100000 in
theorem rread_short (s : ByteArray) (w : World) (hs : s.size ≤ maxLen) (h : s.size < 17) :
    Calls Try.prog 10 #[.string s] w fun e w' => e = .returned (readV s) ∧ Below w.heap.size w w' := by
  unfold maxLen at hs
  rw [readV_bad s (goodB_len s h)]
  go_enter Try.func10, Try.ntmps10
  go_wp2
  go_returns
  exact ⟨rfl, by (repeat' (first | (with_reducible exact Below.refl _ _) | (with_reducible assumption) | (with_reducible refine Below.alloc ?_ ?_ _) | (with_reducible refine Below.drew ?_) | (with_reducible refine below_drewN ?_ _) | (with_reducible refine Below.setCell ?_ ?_ _) | (with_reducible refine Below.trans ?_ (Below.mono (by assumption) ?_)) | go_size))⟩

set_option maxHeartbeats 2000000 in
set_option maxRecDepth 100000 in
theorem rread_head (s : ByteArray) (w : World) (hs : s.size ≤ maxLen) (h : 17 ≤ s.size) (hh : headB s = false) :
    Calls Try.prog 10 #[.string s] w fun e w' => e = .returned (readV s) ∧ Below w.heap.size w w' := by
  unfold maxLen at hs
  rw [readV_bad s (goodB_head s hh)]
  have hb := PlainAid.get_bt s
  have hh' : ¬ (bt s 0 = 91 ∧ (bt s 1 = 46 ∨ bt s 1 = 42) ∧ bt s 6 = 46 ∧ bt s 11 = 46 ∧ bt s 16 = 93) := by
    intro hx
    obtain ⟨x0, x1, x6, x11, x16⟩ := hx
    unfold headB at hh; rcases x1 with x1 | x1 <;> simp [x0, x1, x6, x11, x16] at hh
  clear hh
  have HH := Lib.hid hh'
  clear hh'
  go_enter Try.func10, Try.ntmps10
  go_wp2_with fail
  all_goals first
    | (go_returns; exact ⟨rfl, by (repeat' (first | (with_reducible exact Below.refl _ _) | (with_reducible assumption) | (with_reducible refine Below.alloc ?_ ?_ _) | (with_reducible refine Below.drew ?_) | (with_reducible refine below_drewN ?_ _) | (with_reducible refine Below.setCell ?_ ?_ _) | (with_reducible refine Below.trans ?_ (Below.mono (by assumption) ?_)) | go_size))⟩)
    | (exfalso; have hq := HH.out; clear HH; simp_all)

set_option maxHeartbeats 4000000 in
set_option maxRecDepth 100000 in
theorem rread_dig (s : ByteArray) (w : World) (hs : s.size ≤ maxLen) (h : 17 ≤ s.size) (hh : headB s = true) (hd : digB s = false) :
    Calls Try.prog 10 #[.string s] w fun e w' => e = .returned (readV s) ∧ Below w.heap.size w w' := by
  have hsz := hs
  unfold maxLen at hs
  rw [readV_bad s (goodB_dig s hd)]
  have hb := PlainAid.get_bt s
  have hh' : (bt s 0 = 91 ∧ (bt s 1 = 46 ∨ bt s 1 = 42) ∧ bt s 6 = 46 ∧ bt s 11 = 46 ∧ bt s 16 = 93) := by
    unfold headB at hh; simp at hh; simp [hh]
  have hd' : ¬ (accB s 2 4 = true ∧ accB s 7 4 = true ∧ accB s 12 4 = true) := by
    intro hx; unfold digB at hd; simp [hx] at hd
  clear hh hd
  have HD := Lib.hid hd'
  clear hd'
  obtain ⟨x0, x1, x6, x11, x16⟩ := hh'
  have HZ := Lib.hid hsz
  clear hsz
  rcases x1 with x1 | x1
  all_goals
    go_enter Try.func10, Try.ntmps10
    go_wp2_with fail
    refine (number_any s 2 _ (by omega) HZ.out).mono ?_
    rintro e w' ⟨rfl, rfl⟩
    go_wp2_with fail
    refine (number_any s 7 _ (by omega) HZ.out).mono ?_
    rintro e w' ⟨rfl, rfl⟩
    go_wp2_with fail
    refine (number_any s 12 _ (by omega) HZ.out).mono ?_
    rintro e w' ⟨rfl, rfl⟩
    go_wp2_with fail
    all_goals first
      | (go_returns; exact ⟨rfl, by (repeat' (first | (with_reducible exact Below.refl _ _) | (with_reducible assumption) | (with_reducible refine Below.alloc ?_ ?_ _) | (with_reducible refine Below.drew ?_) | (with_reducible refine below_drewN ?_ _) | (with_reducible refine Below.setCell ?_ ?_ _) | (with_reducible refine Below.trans ?_ (Below.mono (by assumption) ?_)) | go_size))⟩)
      | (exfalso; have hq := HD.out; clear HD; simp_all)

end Go.Proofs.Ytobblnpldphclaa
