/- lecternref04.Scalar, lecternref05.Runes: walks. -/
import Derived.Test.YtchjjfjjcdjjcaaGreatDoorBase
import Derived.Deep.RegionHeld
namespace Go.Proofs.YtchjjfjjcdjjcaaGreatDoor
open Go.RowKit

theorem take_snocR {α : Type} {l : List α} {i : Nat} {x : α} (h : l[i]? = some x) : l.take (i + 1) = l.take i ++ [x] := by rw [List.take_add_one, h]; rfl
set_option maxHeartbeats 400000 in
theorem r4scalar_any (r : Int) (w : World) :
    Calls Tryz.prog 44 #[.int .i32 r] w fun e w' => e = .returned (.bool (sc r)) ∧ w = w' := by
  go_enter Tryz.func44, Tryz.ntmps44
  go_wp2
  all_goals go_ret
  all_goals (refine ⟨?_, rfl⟩; simp_all [sc]; try omega)
end Go.Proofs.YtchjjfjjcdjjcaaGreatDoor
