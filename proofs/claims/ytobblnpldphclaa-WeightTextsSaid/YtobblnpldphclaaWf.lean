/- The reference's Show. -/
import Derived.Test.YtobblnpldphclaaWe
namespace Go.Proofs.Ytobblnpldphclaa
open Go.RowKit

set_option maxHeartbeats 2000000 in
set_option maxRecDepth 100000 in
theorem rshow_yes (p s t : Int) (v : Bool) (w : World) (hp : inB p 0 65535 = true) (hs : inB s 0 65535 = true) (ht : inB t 0 65535 = true) :
    Calls Try.prog 8 #[.agg #[.int .i64 p, .int .i64 s, .int .i64 t, .bool v]] w fun e w' => e = .returned (.string (strOfNums (showL p s t v))) ∧ Below w.heap.size w w' := by
  have hl := hex4_len
  have hb := byte2_app
  have ha := app_byte
  have hp' : 0 ≤ p ∧ p ≤ 65535 := by simpa [inB] using hp
  have hs' : 0 ≤ s ∧ s ≤ 65535 := by simpa [inB] using hs
  have ht' : 0 ≤ t ∧ t ≤ 65535 := by simpa [inB] using ht
  obtain ⟨p0, p1⟩ := hp'; obtain ⟨s0, s1⟩ := hs'; obtain ⟨t0, t1⟩ := ht'
  cases v
  all_goals
    go_enter Try.func8, Try.ntmps8
    go_wp2
    refine wp_loop_rounds 4 ?_
    iterate 4
      rw [rounds_succ]
      go_wp2
    refine wp_region_over (by kernel_rfl) (by kernel_rfl) ?_; (repeat (go_big_quiet_step ((go_at_call 22; exact over_same (digits_any _ _ (by assumption) (by assumption)))))); refine wpQuiet_nil ?_; intro w1 hb1
    go_wp2
    go_ret
    exact ⟨by simp [showL, hp, hs, ht], by (repeat' (first | (with_reducible exact Below.refl _ _) | (with_reducible assumption) | (with_reducible refine Below.alloc ?_ ?_ _) | (with_reducible refine Below.drew ?_) | (with_reducible refine below_drewN ?_ _) | (with_reducible refine Below.setCell ?_ ?_ _) | (with_reducible refine Below.trans ?_ (Below.mono (by assumption) ?_)) | go_size))⟩

set_option maxHeartbeats 2000000 in
set_option maxRecDepth 100000 in
theorem rshow_no (p s t : Int) (v : Bool) (w : World) (h : (inB p 0 65535 && inB s 0 65535 && inB t 0 65535) = false) :
    Calls Try.prog 8 #[.agg #[.int .i64 p, .int .i64 s, .int .i64 t, .bool v]] w fun e w' => e = .returned (.string (strOfNums (showL p s t v))) ∧ Below w.heap.size w w' := by
  have H := Lib.hid h
  have key : ∀ n, inB n 0 65535 = false → n < 0 ∨ 65535 < n := by intro n; simp [inB]; omega
  have key' : ∀ n, inB n 0 65535 = true → 0 ≤ n ∧ n ≤ 65535 := by intro n; simp [inB]
  have hh : (n : Int) → (n < 0 ∨ 65535 < n) ∨ (0 ≤ n ∧ n ≤ 65535) := by omega
  have h' : (p < 0 ∨ 65535 < p) ∨ ((0 ≤ p ∧ p ≤ 65535) ∧ ((s < 0 ∨ 65535 < s) ∨ ((0 ≤ s ∧ s ≤ 65535) ∧ (t < 0 ∨ 65535 < t)))) := by
    cases hp : inB p 0 65535
    · exact Or.inl (key _ hp)
    · refine Or.inr ⟨key' _ hp, ?_⟩
      cases hs : inB s 0 65535
      · exact Or.inl (key _ hs)
      · exact Or.inr ⟨key' _ hs, key _ (by simpa [hp, hs] using h)⟩
  clear h key key' hh
  rcases h' with h' | ⟨⟨p0, p1⟩, h' | ⟨⟨s0, s1⟩, h'⟩⟩
  · rcases h' with h' | h'
    all_goals
      go_enter Try.func8, Try.ntmps8
      go_wp2
      refine wp_loop_rounds 1 ?_
      rw [rounds_succ]
      go_wp2
      go_ret
      exact ⟨by rw [showL, H.out]; rfl, by (repeat' (first | (with_reducible exact Below.refl _ _) | (with_reducible assumption) | (with_reducible refine Below.alloc ?_ ?_ _) | (with_reducible refine Below.drew ?_) | (with_reducible refine below_drewN ?_ _) | (with_reducible refine Below.setCell ?_ ?_ _) | (with_reducible refine Below.trans ?_ (Below.mono (by assumption) ?_)) | go_size))⟩
  · rcases h' with h' | h'
    all_goals
      go_enter Try.func8, Try.ntmps8
      go_wp2
      refine wp_loop_rounds 2 ?_
      iterate 2
        rw [rounds_succ]
        go_wp2
      go_ret
      exact ⟨by rw [showL, H.out]; rfl, by (repeat' (first | (with_reducible exact Below.refl _ _) | (with_reducible assumption) | (with_reducible refine Below.alloc ?_ ?_ _) | (with_reducible refine Below.drew ?_) | (with_reducible refine below_drewN ?_ _) | (with_reducible refine Below.setCell ?_ ?_ _) | (with_reducible refine Below.trans ?_ (Below.mono (by assumption) ?_)) | go_size))⟩
  · rcases h' with h' | h'
    all_goals
      go_enter Try.func8, Try.ntmps8
      go_wp2
      refine wp_loop_rounds 3 ?_
      iterate 3
        rw [rounds_succ]
        go_wp2
      go_ret
      exact ⟨by rw [showL, H.out]; rfl, by (repeat' (first | (with_reducible exact Below.refl _ _) | (with_reducible assumption) | (with_reducible refine Below.alloc ?_ ?_ _) | (with_reducible refine Below.drew ?_) | (with_reducible refine below_drewN ?_ _) | (with_reducible refine Below.setCell ?_ ?_ _) | (with_reducible refine Below.trans ?_ (Below.mono (by assumption) ?_)) | go_size))⟩

theorem rshow_any (p s t : Int) (v : Bool) (w : World) :
    Calls Try.prog 8 #[.agg #[.int .i64 p, .int .i64 s, .int .i64 t, .bool v]] w fun e w' => e = .returned (.string (strOfNums (showL p s t v))) ∧ Below w.heap.size w w' := by
  cases h : (inB p 0 65535 && inB s 0 65535 && inB t 0 65535)
  · exact rshow_no p s t v w h
  · simp only [Bool.and_eq_true] at h
    exact rshow_yes p s t v w h.1.1 h.1.2 h.2
end Go.Proofs.Ytobblnpldphclaa
