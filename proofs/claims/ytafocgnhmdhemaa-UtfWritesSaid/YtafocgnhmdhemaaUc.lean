/- The reference's forms: walks. -/
import Derived.Test.YtafocgnhmdhemaaUr
namespace Go.Proofs.Ytafocgnhmdhemaa
open Go.RowKit
open PlainAid (bt)

set_option maxHeartbeats 400000 in
theorem rscalar_any (r : Int) (w : World) :
    Calls Try.prog 19 #[.int .i32 r] w fun e w' => e = .returned (.bool (sc r)) ∧ w = w' := by
  go_enter Try.func19, Try.ntmps19
  go_wp2
  all_goals go_ret
  all_goals (refine ⟨?_, rfl⟩; simp_all [sc]; try omega)
def encCells (r : Int) : Array Value := ((enc r).map (Value.int .u8)).toArray

set_option maxHeartbeats 1000000 in
theorem rform_any (r : Int) (w : World) (h : sc r = true) :
    Calls Try.prog 37 #[.int .i32 r] w fun e w' => e = .returned (.slice (some ⟨w.heap.size, 0, none⟩) (lg r) (lg r)) ∧ w.alloc (.cells (encCells r) 5) = w' := by
  have hr : 0 ≤ r ∧ r ≤ 1114111 := by unfold sc at h; simp at h; omega
  obtain ⟨r0, r1⟩ := hr
  clear h
  by_cases h1 : r < 128
  · have e1 : lg r = 1 := by unfold lg; rw [if_pos h1]
    have e2 : encCells r = #[.int .u8 r] := by unfold encCells enc; rw [if_pos h1]; rfl
    rw [e1, e2]
    clear e1 e2
    go_enter Try.func37, Try.ntmps37
    go_wp2
    go_ret
    exact ⟨rfl, rfl⟩
  · by_cases h2 : r < 2048
    · have e1 : lg r = 2 := by unfold lg; rw [if_neg h1, if_pos h2]
      have e2 : encCells r = #[.int .u8 (192 + r / 64), .int .u8 (128 + r % 64)] := by unfold encCells enc; rw [if_neg h1, if_pos h2]; rfl
      rw [e1, e2]
      clear e1 e2
      go_enter Try.func37, Try.ntmps37
      go_wp2
      go_ret
      exact ⟨rfl, rfl⟩
    · by_cases h3 : r < 65536
      · have e1 : lg r = 3 := by unfold lg; rw [if_neg h1, if_neg h2, if_pos h3]
        have e2 : encCells r = #[.int .u8 (224 + r / 4096), .int .u8 (128 + r / 64 % 64), .int .u8 (128 + r % 64)] := by unfold encCells enc; rw [if_neg h1, if_neg h2, if_pos h3]; rfl
        rw [e1, e2]
        clear e1 e2
        go_enter Try.func37, Try.ntmps37
        go_wp2
        go_ret
        exact ⟨rfl, rfl⟩
      · have e1 : lg r = 4 := by unfold lg; rw [if_neg h1, if_neg h2, if_neg h3]
        have e2 : encCells r = #[.int .u8 (240 + r / 262144), .int .u8 (128 + r / 4096 % 64), .int .u8 (128 + r / 64 % 64), .int .u8 (128 + r % 64)] := by unfold encCells enc; rw [if_neg h1, if_neg h2, if_neg h3]; rfl
        rw [e1, e2]
        clear e1 e2
        go_enter Try.func37, Try.ntmps37
        go_wp2
        go_ret
        exact ⟨rfl, rfl⟩
/-- a row of a form is read as a string -/
theorem enc_string {P : Program} (w : World) (r : Int) (src e dst : TypeId) (hs : P.underlying src = some (.slice e)) (he : P.underlying e = some (.int .u8)) (hd : P.underlying dst = some .string) :
    (convert src dst (.slice (some ⟨w.heap.size, 0, none⟩) (lg r) (lg r))).run P (w.alloc (.cells (encCells r) e)) = .ok (.string (strOfNums (enc r))) (w.alloc (.cells (encCells r) e)) := by
  refine run_convert_bytes_arg _ src e hs he w.heap.size 0 (lg r) (lg r) (enc r) (enc_len r) ?_ dst hd
  intro i hi
  rw [Nat.zero_add, World.cell?_alloc_new]
  unfold encCells
  rw [← enc_len] at hi
  simp [List.getD, hi]
end Go.Proofs.Ytafocgnhmdhemaa
