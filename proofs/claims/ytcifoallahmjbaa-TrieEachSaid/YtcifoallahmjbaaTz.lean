/- A trie that nobody made: what its functions answer. -/
import Derived.Test.YtcifoallahmjbaaTp
namespace Go.Proofs.Ytcifoallahmjbaa
open Go.RowKit

/-- nobody made it: nil, or a head of zeros -/
def NotMade (w : World) (v : Value) : Prop := v = .pointer none ∨ ∃ z, v = .pointer (some ⟨z, 0, none⟩) ∧ w.cell? ⟨z, 0, none⟩ = some (.int .i64 0)
theorem is_not (v : Value) (w : World) (h : NotMade w v) : Calls Try.prog 31 #[v] w fun e w' => e = .returned (.bool false) ∧ w = w' := by
  rcases h with rfl | ⟨z, rfl, hz⟩
  · exact is_nil w
  · exact is_zero w hz
set_option maxHeartbeats 1000000 in
set_option maxRecDepth 100000 in
theorem get_not (v c : Value) (w : World) (h : NotMade w v) : Calls Try.prog 12 #[v, c] w fun e w' => e = .returned (.tuple #[.slice none 0 0, .bool false]) ∧ w = w' := by
  have HI := Lib.hid (is_not v w h)
  clear h
  go_enter Try.func12, Try.ntmps12
  go_wp2_with fail
  refine HI.out.mono ?_
  rintro e w1 ⟨rfl, rfl⟩
  go_wp2_with fail
  go_ret2
  exact ⟨rfl, rfl⟩
set_option maxHeartbeats 1000000 in
set_option maxRecDepth 100000 in
theorem longest_not (v c : Value) (w : World) (h : NotMade w v) : Calls Try.prog 13 #[v, c] w fun e w' => e = .returned (.tuple #[.int .i64 0, .slice none 0 0]) ∧ w = w' := by
  have HI := Lib.hid (is_not v w h)
  clear h
  go_enter Try.func13, Try.ntmps13
  go_wp2_with fail
  refine HI.out.mono ?_
  rintro e w1 ⟨rfl, rfl⟩
  go_wp2_with fail
  go_ret2
  exact ⟨rfl, rfl⟩
set_option maxHeartbeats 1000000 in
set_option maxRecDepth 100000 in
theorem begins_not (v c : Value) (w : World) (h : NotMade w v) : Calls Try.prog 18 #[v, c] w fun e w' => e = .returned (.bool false) ∧ w = w' := by
  have HI := Lib.hid (is_not v w h)
  clear h
  go_enter Try.func18, Try.ntmps18
  go_wp2_with fail
  refine HI.out.mono ?_
  rintro e w1 ⟨rfl, rfl⟩
  go_wp2_with fail
  go_ret
  exact ⟨rfl, rfl⟩
set_option maxHeartbeats 1000000 in
set_option maxRecDepth 100000 in
theorem len_not (v : Value) (w : World) (h : NotMade w v) : Calls Try.prog 11 #[v] w fun e w' => e = .returned (.int .i64 0) ∧ w = w' := by
  have HI := Lib.hid (is_not v w h)
  clear h
  go_enter Try.func11, Try.ntmps11
  go_wp2_with fail
  refine HI.out.mono ?_
  rintro e w1 ⟨rfl, rfl⟩
  go_wp2_with fail
  go_ret
  exact ⟨rfl, rfl⟩
set_option maxHeartbeats 1000000 in
set_option maxRecDepth 100000 in
theorem asked_not (v : Value) (w : World) (h : NotMade w v) : Calls Try.prog 15 #[v] w fun e w' => e = .returned (.int .i64 0) ∧ w = w' := by
  have HI := Lib.hid (is_not v w h)
  clear h
  go_enter Try.func15, Try.ntmps15
  go_wp2_with fail
  refine HI.out.mono ?_
  rintro e w1 ⟨rfl, rfl⟩
  go_wp2_with fail
  go_ret
  exact ⟨rfl, rfl⟩
end Go.Proofs.Ytcifoallahmjbaa
