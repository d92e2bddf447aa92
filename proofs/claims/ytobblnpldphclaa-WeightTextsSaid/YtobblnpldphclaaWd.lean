/- The reference's hexadecimal digits. -/
import Derived.Test.YtobblnpldphclaaWa
import Derived.Test.YtobblnpldphclaaBase
namespace Go.Proofs.Ytobblnpldphclaa
open Go.RowKit

set_option maxHeartbeats 1000000 in
set_option maxRecDepth 100000 in
theorem digits_any (n : Int) (w : World) (h0 : 0 ≤ n) (h1 : n ≤ 65535) :
    Calls Try.prog 22 #[.int .i64 n] w fun e w' => e = .returned (.string (strOfNums (hex4 n))) ∧ w = w' := by
  have b0 := i64_and15 (n / 4096) (by omega) (by omega)
  have b1 := i64_and15 (n / 256) (by omega) (by omega)
  have b2 := i64_and15 (n / 16) (by omega) (by omega)
  have b3 := i64_and15 n (by omega) (by omega)
  have he := hexenc
  have hx := fun (k : Nat) (h : k < 16) => hexget k h
  go_enter Try.func22, Try.ntmps22
  go_wp2
  refine wp_loop_rounds 5 ?_
  iterate 5
    rw [rounds_succ]
    go_wp2
  go_ret
  exact ⟨rfl, rfl⟩
end Go.Proofs.Ytobblnpldphclaa
