/- slices.Sort at []rune: cmp.Less. -/
import Derived.Test.YtcifoallahmjbaaBase
import Derived.BigRegion
import Derived.Sort.Defs
namespace Go.Proofs.Ytcifoallahmjbaa
open Go.RowKit
open Go.Sort (swp ltInt)

abbrev encI : Int → Value := fun x => Value.int .i32 x
set_option maxRecDepth 100000 in
theorem isNaN_any (x : Int) (w : World) : Calls Try.prog 78 #[.int .i32 x] w fun e w' => e = .returned (.bool false) ∧ w = w' := by
  go_enter Try.func78, Try.ntmps78
  go_wp2
  go_ret
  exact ⟨rfl, rfl⟩
set_option maxRecDepth 100000 in
theorem less_any (x y : Int) (w : World) : Calls Try.prog 68 #[.int .i32 x, .int .i32 y] w fun e w' => e = .returned (.bool (ltInt x y)) ∧ w = w' := by
  go_enter Try.func68, Try.ntmps68
  go_wp2_with (go_at_call 78; refine (isNaN_any _ _).mono ?_; rintro e w' ⟨rfl, rfl⟩)
  all_goals go_ret
  all_goals exact ⟨rfl, rfl⟩
theorem lessR (x y : Int) (w : World) : Calls Try.prog 68 #[.int .i32 x, .int .i32 y] w fun e w' => e = .returned (.bool (Sort.ltInt x y)) ∧ w' = w :=
  (less_any x y w).mono fun _ _ h => ⟨h.1, h.2.symm⟩
end Go.Proofs.Ytcifoallahmjbaa
