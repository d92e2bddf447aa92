/- Read of the reference of package weight. -/
import Derived.Test.YtjbcbejedaeedaaGreatDoorWg
import Derived.Test.YtjbcbejedaeedaaGreatDoorWa
namespace Go.Proofs.YtjbcbejedaeedaaGreatDoor
open Go.RowKit
open PlainAid (bt)

def headB (s : ByteArray) : Bool := decide (bt s 0 = 91) && (decide (bt s 1 = 46) || decide (bt s 1 = 42)) && decide (bt s 6 = 46) && decide (bt s 11 = 46) && decide (bt s 16 = 93)
def digB (s : ByteArray) : Bool := accB s 2 4 && accB s 7 4 && accB s 12 4
def goodB (s : ByteArray) : Bool := decide (17 ≤ s.size) && headB s && digB s
def starB (s : ByteArray) : Bool := decide (bt s 1 = 42)
def chkS (s : ByteArray) : Int := chk (acc s 2 4) (acc s 7 4) (acc s 12 4) (starB s)
def zeroE : Value := .agg #[.int .i64 0, .int .i64 0, .int .i64 0, .bool false]
def elemS (s : ByteArray) : Value := .agg #[.int .i64 (acc s 2 4), .int .i64 (acc s 7 4), .int .i64 (acc s 12 4), .bool (starB s)]
def readV (s : ByteArray) : Value :=
  if goodB s then (if chkS s = 0 then .tuple #[elemS s, .int .i64 17, .int .i64 0] else .tuple #[zeroE, .int .i64 0, .int .i64 (chkS s)]) else .tuple #[zeroE, .int .i64 0, .int .i64 3]
theorem readV_bad (s : ByteArray) (h : goodB s = false) : readV s = .tuple #[.agg #[.int .i64 0, .int .i64 0, .int .i64 0, .bool false], .int .i64 0, .int .i64 3] := by
  unfold readV; rw [h]; rfl

set_option maxHeartbeats 2000000 in
set_option maxRecDepth 100000 in
theorem rcheck_any (p s t : Int) (v : Bool) (w : World) :
    Calls Tryz.prog 158 #[.agg #[.int .i64 p, .int .i64 s, .int .i64 t, .bool v]] w fun e w' => e = .returned (.int .i64 (chk p s t v)) ∧ Below w.heap.size w w' := by
  by_cases hg : (0 ≤ p ∧ p ≤ 65535) ∧ (0 ≤ s ∧ s ≤ 511) ∧ (0 ≤ t ∧ t ≤ 63)
  · obtain ⟨⟨p0, p1⟩, ⟨s0, s1⟩, ⟨t0, t1⟩⟩ := hg
    go_enter Tryz.func158, Tryz.ntmps158
    go_wp2
    all_goals go_ret
    all_goals refine ⟨?_, ?_⟩
    all_goals first | (go_grown; done) | (simp_all [chk, okB, inB]; done) | (simp_all [chk, okB, inB]; intros; omega)
  · have hc : chk p s t v = 70 := by
      unfold chk; rw [if_neg]
      intro h
      simp [okB, inB] at h
      omega
    rw [hc]
    go_enter Tryz.func158, Tryz.ntmps158
    go_wp2
    all_goals first
      | (go_ret; exact ⟨rfl, by (repeat' (first | (with_reducible exact Below.refl _ _) | (with_reducible assumption) | (with_reducible refine Below.alloc ?_ ?_ _) | (with_reducible refine Below.drew ?_) | (with_reducible refine below_drewN ?_ _) | (with_reducible refine Below.setCell ?_ ?_ _) | (with_reducible refine Below.trans ?_ (Below.mono (by assumption) ?_)) | go_size))⟩)
      | (exfalso; omega)
end Go.Proofs.YtjbcbejedaeedaaGreatDoor
