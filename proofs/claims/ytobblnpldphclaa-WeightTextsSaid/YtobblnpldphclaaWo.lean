/- The laws of chapter 7, walked. -/
import Derived.Test.YtobblnpldphclaaWm
import Derived.Test.YtobblnpldphclaaWf
import Derived.Test.YtobblnpldphclaaWj
import Derived.Test.YtobblnpldphclaaWn
namespace Go.Proofs.Ytobblnpldphclaa
open Go.RowKit

theorem cmp3_bd (p s t q r u : Int) : -1 ≤ cmp3 p s t q r u ∧ cmp3 p s t q r u ≤ 1 := by
  have h : ∀ a b, -1 ≤ sgn a b ∧ sgn a b ≤ 1 := by intro a b; unfold sgn; split <;> (try split) <;> omega
  have := h p q; have := h s r; have := h t u
  unfold cmp3; split <;> (try split) <;> omega

set_option maxHeartbeats 4000000 in
set_option maxRecDepth 100000 in
theorem law_checks (p s t q r u : Int) (v x : Bool) (w : World) :
    Calls Try.prog 5 #[.agg #[.int .i64 p, .int .i64 s, .int .i64 t, .bool v], .agg #[.int .i64 q, .int .i64 r, .int .i64 u, .bool x]] w fun e w' => e = .returned (.bool true) ∧ Below w.heap.size w w' := by
  obtain ⟨n0, n1⟩ := cmp3_bd p s t q r u
  have hn := cmp3_neg p s t q r u
  go_enter Try.func5, Try.ntmps5
  go_wp2_with fail
  refine (awake_any _).mono ?_
  rintro e w1 ⟨rfl, hb1⟩
  have hz1 : w.heap.size + 1 < w1.heap.size := by have := hb1.size; simp at this; omega
  have hz0 : w.heap.size < w1.heap.size := by omega
  have c0 : w1.cell? ⟨w.heap.size, 0, none⟩ = some (.int .i64 p) := by rw [(hb1).cell (p := ⟨w.heap.size, 0, none⟩) (by simp; try omega)]; simp [go_sem]
  have c1 : w1.cell? ⟨w.heap.size, 1, none⟩ = some (.int .i64 s) := by rw [(hb1).cell (p := ⟨w.heap.size, 1, none⟩) (by simp; try omega)]; simp [go_sem]
  have c2 : w1.cell? ⟨w.heap.size, 2, none⟩ = some (.int .i64 t) := by rw [(hb1).cell (p := ⟨w.heap.size, 2, none⟩) (by simp; try omega)]; simp [go_sem]
  have c3 : w1.cell? ⟨w.heap.size, 3, none⟩ = some (.bool v) := by rw [(hb1).cell (p := ⟨w.heap.size, 3, none⟩) (by simp; try omega)]; simp [go_sem]
  have d0 : w1.cell? ⟨w.heap.size + 1, 0, none⟩ = some (.int .i64 q) := by rw [(hb1).cell (p := ⟨w.heap.size + 1, 0, none⟩) (by simp; try omega)]; simp [go_sem]
  have d1 : w1.cell? ⟨w.heap.size + 1, 1, none⟩ = some (.int .i64 r) := by rw [(hb1).cell (p := ⟨w.heap.size + 1, 1, none⟩) (by simp; try omega)]; simp [go_sem]
  have d2 : w1.cell? ⟨w.heap.size + 1, 2, none⟩ = some (.int .i64 u) := by rw [(hb1).cell (p := ⟨w.heap.size + 1, 2, none⟩) (by simp; try omega)]; simp [go_sem]
  have d3 : w1.cell? ⟨w.heap.size + 1, 3, none⟩ = some (.bool x) := by rw [(hb1).cell (p := ⟨w.heap.size + 1, 3, none⟩) (by simp; try omega)]; simp [go_sem]
  have hb := Lib.hid hb1
  clear hb1
  go_wp2_with fail
  refine wp_region_over (by kernel_rfl) (by kernel_rfl) ?_
  (repeat (go_big_quiet_step ((first
    | (go_at_call 14; exact over_of (check_any _ _ _ _ _))
    | (go_at_call 11; exact over_of (rcheck_any _ _ _ _ _))
    | (go_at_call 15; exact over_of (level_any _ _ _ _ _))
    | (go_at_call 16; exact over_of (rlevel_any _ _ _ _ _))
    | (go_at_call 17; exact over_of (compare_any _ _ _ _ _ _ _ _ _))
    | (go_at_call 18; exact over_of (rcompare_any _ _ _ _ _ _ _ _ _))))))
  refine wpQuiet_nil ?_
  intro w2 hb2
  have hb := hb.out.trans (hb2.mono hb.out.size)
  go_wp2_with fail
  go_ret
  exact ⟨rfl, by (repeat' (first | (with_reducible exact Below.refl _ _) | (with_reducible assumption) | (with_reducible refine Below.alloc ?_ ?_ _) | (with_reducible refine Below.drew ?_) | (with_reducible refine below_drewN ?_ _) | (with_reducible refine Below.setCell ?_ ?_ _) | (with_reducible refine Below.trans ?_ (Below.mono (by assumption) ?_)) | go_size))⟩
end Go.Proofs.Ytobblnpldphclaa
