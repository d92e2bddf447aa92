/- Which elements may be: package weight's test and the reference's. -/
import Derived.Test.YtcifoallahmjbaaBase
namespace Go.Proofs.Ytcifoallahmjbaa
open Go.RowKit

def inB (n a b : Int) : Bool := decide (a ≤ n) && decide (n ≤ b)
def okB (p s t : Int) (v : Bool) : Bool :=
  inB p 0 65535 && inB s 0 511 && inB t 0 63 && !(decide (p ≠ 0) && (decide (s = 0) || decide (t = 0))) && !(decide (s ≠ 0) && decide (t = 0)) && !(v && decide (p = 0)) && decide (p < 64256)
def chk (p s t : Int) (v : Bool) : Int := if okB p s t v then 0 else 70

set_option maxHeartbeats 400000 in
theorem within_any (n a b : Int) (w : World) :
    Calls Try.prog 54 #[.int .i64 n, .int .i64 a, .int .i64 b] w fun e w' => e = .returned (.bool (inB n a b)) ∧ w = w' := by
  go_enter Try.func54, Try.ntmps54
  go_wp2
  all_goals go_ret
  all_goals (refine ⟨?_, rfl⟩; simp_all [inB]; try omega)

set_option maxHeartbeats 1000000 in
theorem check_any (p s t : Int) (v : Bool) (w : World) :
    Calls Try.prog 44 #[.agg #[.int .i64 p, .int .i64 s, .int .i64 t, .bool v]] w fun e w' => e = .returned (.int .i64 (chk p s t v)) ∧ Below w.heap.size w w' := by
  go_enter Try.func44, Try.ntmps44
  go_wp2_with (go_at_call 54; refine (within_any _ _ _ _).mono ?_; rintro e w' ⟨rfl, rfl⟩)

  all_goals go_ret
  all_goals refine ⟨?_, ?_⟩
  all_goals first | (go_grown; done) | (simp_all [chk, okB, inB]; done) | (simp_all [chk, okB, inB]; intros; omega)

set_option maxHeartbeats 2000000 in
set_option maxRecDepth 100000 in
theorem wrcheck_any (p s t : Int) (v : Bool) (w : World) :
    Calls Try.prog 30 #[.agg #[.int .i64 p, .int .i64 s, .int .i64 t, .bool v]] w fun e w' => e = .returned (.int .i64 (chk p s t v)) ∧ Below w.heap.size w w' := by
  by_cases hg : (0 ≤ p ∧ p ≤ 65535) ∧ (0 ≤ s ∧ s ≤ 511) ∧ (0 ≤ t ∧ t ≤ 63)
  · obtain ⟨⟨p0, p1⟩, ⟨s0, s1⟩, ⟨t0, t1⟩⟩ := hg
    go_enter Try.func30, Try.ntmps30
    go_wp2
    all_goals go_ret
    all_goals refine ⟨?_, ?_⟩
    all_goals first | (go_grown; done) | (simp_all [chk, okB, inB]; done) | (simp_all [chk, okB, inB]; intros; omega)
  · have hc : chk p s t v = 70 := by
      unfold chk; rw [if_neg]
      intro h
      simp [okB, inB] at h
      omega
    rw [hc]
    go_enter Try.func30, Try.ntmps30
    go_wp2
    all_goals first
      | (go_ret; exact ⟨rfl, by (repeat' (first | (with_reducible exact Below.refl _ _) | (with_reducible assumption) | (with_reducible refine Below.alloc ?_ ?_ _) | (with_reducible refine Below.drew ?_) | (with_reducible refine below_drewN ?_ _) | (with_reducible refine Below.setCell ?_ ?_ _) | (with_reducible refine Below.trans ?_ (Below.mono (by assumption) ?_)) | go_size))⟩)
      | (exfalso; omega)
end Go.Proofs.Ytcifoallahmjbaa
