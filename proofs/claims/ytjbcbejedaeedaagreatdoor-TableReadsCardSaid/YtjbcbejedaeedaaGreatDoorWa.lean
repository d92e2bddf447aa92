/- Walks of the small functions of package weight and of its reference. -/
import Derived.Test.YtjbcbejedaeedaaGreatDoorWspec
import Derived.WalkKit
import Derived.WalkSpells
import Derived.WalkLawsBesides
import Derived.Handy
namespace Go.Proofs.YtjbcbejedaeedaaGreatDoor
open Go.RowKit

set_option maxHeartbeats 400000 in
theorem within_any (n a b : Int) (w : World) :
    Calls Tryz.prog 55 #[.int .i64 n, .int .i64 a, .int .i64 b] w fun e w' => e = .returned (.bool (inB n a b)) ∧ w = w' := by
  go_enter Tryz.func55, Tryz.ntmps55
  go_wp2
  all_goals go_ret
  all_goals (refine ⟨?_, rfl⟩; simp_all [inB]; try omega)

set_option maxHeartbeats 400000 in
theorem level_any (p s t : Int) (v : Bool) (w : World) :
    Calls Tryz.prog 93 #[.agg #[.int .i64 p, .int .i64 s, .int .i64 t, .bool v]] w fun e w' => e = .returned (.int .i64 (lvl p s t)) ∧ Below w.heap.size w w' := by
  go_enter Tryz.func93, Tryz.ntmps93
  go_wp2
  all_goals go_ret
  all_goals refine ⟨?_, ?_⟩
  all_goals first | (go_grown; done) | simp_all [lvl]

set_option maxHeartbeats 400000 in
theorem rlevel_any (p s t : Int) (v : Bool) (w : World) :
    Calls Tryz.prog 134 #[.agg #[.int .i64 p, .int .i64 s, .int .i64 t, .bool v]] w fun e w' => e = .returned (.int .i64 (lvl p s t)) ∧ Below w.heap.size w w' := by
  go_enter Tryz.func134, Tryz.ntmps134
  go_wp2
  all_goals go_ret
  all_goals refine ⟨?_, ?_⟩
  all_goals first | (go_grown; done) | simp_all [lvl]

set_option maxHeartbeats 1000000 in
theorem check_any (p s t : Int) (v : Bool) (w : World) :
    Calls Tryz.prog 111 #[.agg #[.int .i64 p, .int .i64 s, .int .i64 t, .bool v]] w fun e w' => e = .returned (.int .i64 (chk p s t v)) ∧ Below w.heap.size w w' := by
  go_enter Tryz.func111, Tryz.ntmps111
  go_wp2_with (go_at_call 55; refine (within_any _ _ _ _).mono ?_; rintro e w' ⟨rfl, rfl⟩)

  all_goals go_ret
  all_goals refine ⟨?_, ?_⟩
  all_goals first | (go_grown; done) | (simp_all [chk, okB, inB]; done) | (simp_all [chk, okB, inB]; intros; omega)
end Go.Proofs.YtjbcbejedaeedaaGreatDoor
