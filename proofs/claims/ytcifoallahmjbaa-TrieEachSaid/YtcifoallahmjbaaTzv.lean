/- Under: a closure over the trie and the codes. -/
import Derived.Test.YtcifoallahmjbaaTzu
namespace Go.Proofs.Ytcifoallahmjbaa
open Go.RowKit

set_option maxHeartbeats 1000000 in
set_option maxRecDepth 100000 in
theorem under_any (p q : Option Addr) (n m : Nat) (w : World) : Calls Try.prog 21 #[.pointer p, .slice q n m] w fun e w' =>
    e = .returned (.func (.func 39) #[] #[.pointer (some ⟨w.heap.size, 0, none⟩), .pointer (some ⟨w.heap.size + 1, 0, none⟩)]) ∧ (w.alloc (.cells #[.pointer p] 25)).alloc (.cells #[.slice q n m] 32) = w' := by
  have hmf : ∀ (fn : Fn) (first cap : Array Value) (w : World), (Instr.makeFunc fn first cap).run Try.prog w = .ok (.func fn first cap) w := fun _ _ _ _ => rfl
  go_enter Try.func21, Try.ntmps21
  go_wp2
  go_ret
  exact ⟨rfl, rfl⟩
end Go.Proofs.Ytcifoallahmjbaa
