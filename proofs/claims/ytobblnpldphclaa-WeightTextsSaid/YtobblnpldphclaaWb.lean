/- Unified, Ranges and Implicit of package weight, at the ranges that Unified gives. -/
import Derived.Test.YtobblnpldphclaaWa
import Derived.Test.YtobblnpldphclaaBase
import Derived.Deep.QuietTactic
import Derived.BigQuiet
namespace Go.Proofs.Ytobblnpldphclaa
open Go.RowKit

def uniCells : Array Value := #[.int .i32 13312, .int .i32 19893, .int .i64 64384, .bool false, .int .i32 19968, .int .i32 40917, .int .i64 64320, .bool false, .int .i32 94208, .int .i32 100332, .int .i64 64256, .bool true, .int .i32 131072, .int .i32 173782, .int .i64 64384, .bool false]

theorem point_yes (r : Int) (w : World) (h : 0 ≤ r ∧ r ≤ 1114111) :
    Calls Try.prog 25 #[.int .i32 r] w fun e w' => e = .returned (.bool true) ∧ w = w' := by
  obtain ⟨h0, h1⟩ := h
  go_enter Try.func25, Try.ntmps25
  go_wp2
  all_goals go_ret
  all_goals exact ⟨rfl, rfl⟩

theorem unified_any (w : World) :
    Calls Try.prog 12 #[] w fun e w' => e = .returned (.slice (some ⟨w.heap.size, 0, none⟩) 4 4) ∧ w.alloc (.cells uniCells 37) = w' := by
  go_enter Try.func12, Try.ntmps12
  go_wp2
  go_ret
  exact ⟨rfl, rfl⟩


theorem within_yes (n a b : Int) (w : World) (h : a ≤ n ∧ n ≤ b) :
    Calls Try.prog 20 #[.int .i64 n, .int .i64 a, .int .i64 b] w fun e w' => e = .returned (.bool true) ∧ w = w' :=
  (within_any n a b w).mono fun e w' ⟨he, hw⟩ => ⟨by rw [he]; simp [inB, h.1, h.2], hw⟩

set_option maxHeartbeats 4000000 in
set_option maxRecDepth 100000 in
theorem ranges_uni (w : World) :
    Calls Try.prog 13 #[.slice (some ⟨w.heap.size, 0, none⟩) 4 4] (w.alloc (.cells uniCells 37)) fun e w' => e = .returned (.int .i64 0) ∧ Below (w.heap.size + 1) (w.alloc (.cells uniCells 37)) w' := by
  unfold uniCells
  go_enter Try.func13, Try.ntmps13
  go_wp2
  refine wp_loop_rounds 5 ?_
  iterate 4
    rw [rounds_succ]
    go_wp2
    go_quiet (first | (go_at_call 25; exact quiet_same (point_yes _ _ (by omega))) | (go_at_call 20; exact quiet_same (within_yes _ _ _ _ (by omega))))
    go_wp2
  rw [rounds_succ]
  go_wp2
  go_ret
  exact ⟨rfl, by (repeat' (first | (with_reducible exact Below.refl _ _) | (with_reducible assumption) | (with_reducible refine Below.alloc ?_ ?_ _) | (with_reducible refine Below.drew ?_) | (with_reducible refine below_drewN ?_ _) | (with_reducible refine Below.setCell ?_ ?_ _) | (with_reducible refine Below.trans ?_ (Below.mono (by assumption) ?_)) | go_size))⟩
set_option maxHeartbeats 4000000 in
set_option maxRecDepth 100000 in
theorem implicit_uni (w : World) :
    Calls Try.prog 19 #[.int .i32 19968, .slice (some ⟨w.heap.size, 0, none⟩) 4 4] (w.alloc (.cells uniCells 37)) fun e w' => ∃ b, w.heap.size ≤ b ∧ e = .returned (.slice (some ⟨b, 0, none⟩) 2 2) ∧
      (w'.cell? ⟨b, 0, none⟩ = some (.int .i64 64320) ∧ w'.cell? ⟨b, 1, none⟩ = some (.int .i64 32) ∧ w'.cell? ⟨b, 2, none⟩ = some (.int .i64 2) ∧ w'.cell? ⟨b, 3, none⟩ = some (.bool false) ∧ w'.cell? ⟨b, 4, none⟩ = some (.int .i64 52736)) ∧ b < w'.heap.size ∧ Below w.heap.size w w' := by
  unfold uniCells
  go_enter Try.func19, Try.ntmps19
  go_wp2_with (go_at_call 25; refine (point_yes _ _ (by omega)).mono ?_; rintro e w' ⟨rfl, rfl⟩)
  refine wp_loop_rounds 5 ?_
  rw [rounds_succ]
  go_wp2
  rw [rounds_succ]
  go_wp2
  go_ret
  exact ⟨_, by omega, rfl, ⟨by simp [go_sem], by simp [go_sem], by simp [go_sem], by simp [go_sem], by simp [go_sem]; decide +kernel⟩, by simp, by (repeat' (first | (with_reducible exact Below.refl _ _) | (with_reducible assumption) | (with_reducible refine Below.alloc ?_ ?_ _) | (with_reducible refine Below.drew ?_) | (with_reducible refine below_drewN ?_ _) | (with_reducible refine Below.setCell ?_ ?_ _) | (with_reducible refine Below.trans ?_ (Below.mono (by assumption) ?_)) | go_size))⟩
end Go.Proofs.Ytobblnpldphclaa
