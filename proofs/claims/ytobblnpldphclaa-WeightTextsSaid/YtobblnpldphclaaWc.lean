/- Hexadecimal digits of package weight and of its reference. -/
import Derived.Test.YtobblnpldphclaaWa
import Derived.Test.YtobblnpldphclaaBase
import Derived.Lib.SlBytesConst
namespace Go.Proofs.Ytobblnpldphclaa
open Go.RowKit

set_option maxHeartbeats 1000000 in
set_option maxRecDepth 100000 in
theorem four_any (n : Int) (w : World) (h0 : 0 ≤ n) (h1 : n ≤ 65535) :
    Calls Try.prog 21 #[.int .i64 n] w fun e w' => e = .returned (.string (strOfNums (hex4 n))) ∧ Below w.heap.size w w' := by
  have kc := fun (w : World) (C : Array Value) (n c : Nat) => Lib.run_convert_bytes_const (P := Try.prog) w 56 5 C n c Try.underlying56 Try.underlying5
  have b0 := i64_and15 (n / 4096) (by omega) (by omega)
  have b1 := i64_and15 (n / 256) (by omega) (by omega)
  have b2 := i64_and15 (n / 16) (by omega) (by omega)
  have b3 := i64_and15 n (by omega) (by omega)
  have hx := fun (k : Nat) (h : k < 16) => hexget k h
  go_enter Try.func21, Try.ntmps21
  go_wp2
  refine wp_loop_rounds 5 ?_
  iterate 5
    rw [rounds_succ]
    go_wp2
  rw [run_convert_bytes_arg _ 56 5 Try.underlying56 Try.underlying5 _ 0 4 4 (hex4 n) rfl ?_ 9 Try.underlying9]
  · go_wp2
    go_ret
    exact ⟨rfl, by (repeat' (first | (with_reducible exact Below.refl _ _) | (with_reducible assumption) | (with_reducible refine Below.alloc ?_ ?_ _) | (with_reducible refine Below.drew ?_) | (with_reducible refine below_drewN ?_ _) | (with_reducible refine Below.setCell ?_ ?_ _) | (with_reducible refine Below.trans ?_ (Below.mono (by assumption) ?_)) | go_size))⟩
  · intro i hi
    have : i = 0 ∨ i = 1 ∨ i = 2 ∨ i = 3 := by omega
    rcases this with rfl | rfl | rfl | rfl <;> simp [hex4, go_sem]

end Go.Proofs.Ytobblnpldphclaa
