/- The digits' values: package weight and its reference. -/
import Derived.Test.YtjbcbejedaeedaaGreatDoorWspec
namespace Go.Proofs.YtjbcbejedaeedaaGreatDoor
open Go.RowKit

def hv (c : Int) : Int := if 48 ≤ c ∧ c ≤ 57 then c - 48 else if 65 ≤ c ∧ c ≤ 70 then c - 55 else 0
def hvB (c : Int) : Bool := decide (48 ≤ c ∧ c ≤ 57) || decide (65 ≤ c ∧ c ≤ 70)

set_option maxHeartbeats 4000000 in
set_option maxRecDepth 100000 in
theorem value_any (c : Int) (w : World) (h0 : 0 ≤ c) (h1 : c ≤ 255) :
    Calls Tryz.prog 129 #[.int .u8 c] w fun e w' => e = .returned (.tuple #[.int .i64 (hv c), .bool (hvB c)]) ∧ Below w.heap.size w w' := by
  have n0 := fun ty => show (Instr.next (.pointer (some ⟨w.heap.size, 0, none⟩)) true ty).run Tryz.prog (w.iter ⟨#[48, 49, 50, 51, 52, 53, 54, 55, 56, 57, 65, 66, 67, 68, 69, 70]⟩ 0) = .ok (.tuple #[.bool true, .int .i64 0, .int .i32 48]) (w.iter ⟨#[48, 49, 50, 51, 52, 53, 54, 55, 56, 57, 65, 66, 67, 68, 69, 70]⟩ 1) from run_next_ascii w ⟨#[48, 49, 50, 51, 52, 53, 54, 55, 56, 57, 65, 66, 67, 68, 69, 70]⟩ 0 ty (by decide) (by decide)
  have n1 := fun ty => show (Instr.next (.pointer (some ⟨w.heap.size, 0, none⟩)) true ty).run Tryz.prog (w.iter ⟨#[48, 49, 50, 51, 52, 53, 54, 55, 56, 57, 65, 66, 67, 68, 69, 70]⟩ 1) = .ok (.tuple #[.bool true, .int .i64 1, .int .i32 49]) (w.iter ⟨#[48, 49, 50, 51, 52, 53, 54, 55, 56, 57, 65, 66, 67, 68, 69, 70]⟩ 2) from run_next_ascii w ⟨#[48, 49, 50, 51, 52, 53, 54, 55, 56, 57, 65, 66, 67, 68, 69, 70]⟩ 1 ty (by decide) (by decide)
  have n2 := fun ty => show (Instr.next (.pointer (some ⟨w.heap.size, 0, none⟩)) true ty).run Tryz.prog (w.iter ⟨#[48, 49, 50, 51, 52, 53, 54, 55, 56, 57, 65, 66, 67, 68, 69, 70]⟩ 2) = .ok (.tuple #[.bool true, .int .i64 2, .int .i32 50]) (w.iter ⟨#[48, 49, 50, 51, 52, 53, 54, 55, 56, 57, 65, 66, 67, 68, 69, 70]⟩ 3) from run_next_ascii w ⟨#[48, 49, 50, 51, 52, 53, 54, 55, 56, 57, 65, 66, 67, 68, 69, 70]⟩ 2 ty (by decide) (by decide)
  have n3 := fun ty => show (Instr.next (.pointer (some ⟨w.heap.size, 0, none⟩)) true ty).run Tryz.prog (w.iter ⟨#[48, 49, 50, 51, 52, 53, 54, 55, 56, 57, 65, 66, 67, 68, 69, 70]⟩ 3) = .ok (.tuple #[.bool true, .int .i64 3, .int .i32 51]) (w.iter ⟨#[48, 49, 50, 51, 52, 53, 54, 55, 56, 57, 65, 66, 67, 68, 69, 70]⟩ 4) from run_next_ascii w ⟨#[48, 49, 50, 51, 52, 53, 54, 55, 56, 57, 65, 66, 67, 68, 69, 70]⟩ 3 ty (by decide) (by decide)
  have n4 := fun ty => show (Instr.next (.pointer (some ⟨w.heap.size, 0, none⟩)) true ty).run Tryz.prog (w.iter ⟨#[48, 49, 50, 51, 52, 53, 54, 55, 56, 57, 65, 66, 67, 68, 69, 70]⟩ 4) = .ok (.tuple #[.bool true, .int .i64 4, .int .i32 52]) (w.iter ⟨#[48, 49, 50, 51, 52, 53, 54, 55, 56, 57, 65, 66, 67, 68, 69, 70]⟩ 5) from run_next_ascii w ⟨#[48, 49, 50, 51, 52, 53, 54, 55, 56, 57, 65, 66, 67, 68, 69, 70]⟩ 4 ty (by decide) (by decide)
  have n5 := fun ty => show (Instr.next (.pointer (some ⟨w.heap.size, 0, none⟩)) true ty).run Tryz.prog (w.iter ⟨#[48, 49, 50, 51, 52, 53, 54, 55, 56, 57, 65, 66, 67, 68, 69, 70]⟩ 5) = .ok (.tuple #[.bool true, .int .i64 5, .int .i32 53]) (w.iter ⟨#[48, 49, 50, 51, 52, 53, 54, 55, 56, 57, 65, 66, 67, 68, 69, 70]⟩ 6) from run_next_ascii w ⟨#[48, 49, 50, 51, 52, 53, 54, 55, 56, 57, 65, 66, 67, 68, 69, 70]⟩ 5 ty (by decide) (by decide)
  have n6 := fun ty => show (Instr.next (.pointer (some ⟨w.heap.size, 0, none⟩)) true ty).run Tryz.prog (w.iter ⟨#[48, 49, 50, 51, 52, 53, 54, 55, 56, 57, 65, 66, 67, 68, 69, 70]⟩ 6) = .ok (.tuple #[.bool true, .int .i64 6, .int .i32 54]) (w.iter ⟨#[48, 49, 50, 51, 52, 53, 54, 55, 56, 57, 65, 66, 67, 68, 69, 70]⟩ 7) from run_next_ascii w ⟨#[48, 49, 50, 51, 52, 53, 54, 55, 56, 57, 65, 66, 67, 68, 69, 70]⟩ 6 ty (by decide) (by decide)
  have n7 := fun ty => show (Instr.next (.pointer (some ⟨w.heap.size, 0, none⟩)) true ty).run Tryz.prog (w.iter ⟨#[48, 49, 50, 51, 52, 53, 54, 55, 56, 57, 65, 66, 67, 68, 69, 70]⟩ 7) = .ok (.tuple #[.bool true, .int .i64 7, .int .i32 55]) (w.iter ⟨#[48, 49, 50, 51, 52, 53, 54, 55, 56, 57, 65, 66, 67, 68, 69, 70]⟩ 8) from run_next_ascii w ⟨#[48, 49, 50, 51, 52, 53, 54, 55, 56, 57, 65, 66, 67, 68, 69, 70]⟩ 7 ty (by decide) (by decide)
  have n8 := fun ty => show (Instr.next (.pointer (some ⟨w.heap.size, 0, none⟩)) true ty).run Tryz.prog (w.iter ⟨#[48, 49, 50, 51, 52, 53, 54, 55, 56, 57, 65, 66, 67, 68, 69, 70]⟩ 8) = .ok (.tuple #[.bool true, .int .i64 8, .int .i32 56]) (w.iter ⟨#[48, 49, 50, 51, 52, 53, 54, 55, 56, 57, 65, 66, 67, 68, 69, 70]⟩ 9) from run_next_ascii w ⟨#[48, 49, 50, 51, 52, 53, 54, 55, 56, 57, 65, 66, 67, 68, 69, 70]⟩ 8 ty (by decide) (by decide)
  have n9 := fun ty => show (Instr.next (.pointer (some ⟨w.heap.size, 0, none⟩)) true ty).run Tryz.prog (w.iter ⟨#[48, 49, 50, 51, 52, 53, 54, 55, 56, 57, 65, 66, 67, 68, 69, 70]⟩ 9) = .ok (.tuple #[.bool true, .int .i64 9, .int .i32 57]) (w.iter ⟨#[48, 49, 50, 51, 52, 53, 54, 55, 56, 57, 65, 66, 67, 68, 69, 70]⟩ 10) from run_next_ascii w ⟨#[48, 49, 50, 51, 52, 53, 54, 55, 56, 57, 65, 66, 67, 68, 69, 70]⟩ 9 ty (by decide) (by decide)
  have n10 := fun ty => show (Instr.next (.pointer (some ⟨w.heap.size, 0, none⟩)) true ty).run Tryz.prog (w.iter ⟨#[48, 49, 50, 51, 52, 53, 54, 55, 56, 57, 65, 66, 67, 68, 69, 70]⟩ 10) = .ok (.tuple #[.bool true, .int .i64 10, .int .i32 65]) (w.iter ⟨#[48, 49, 50, 51, 52, 53, 54, 55, 56, 57, 65, 66, 67, 68, 69, 70]⟩ 11) from run_next_ascii w ⟨#[48, 49, 50, 51, 52, 53, 54, 55, 56, 57, 65, 66, 67, 68, 69, 70]⟩ 10 ty (by decide) (by decide)
  have n11 := fun ty => show (Instr.next (.pointer (some ⟨w.heap.size, 0, none⟩)) true ty).run Tryz.prog (w.iter ⟨#[48, 49, 50, 51, 52, 53, 54, 55, 56, 57, 65, 66, 67, 68, 69, 70]⟩ 11) = .ok (.tuple #[.bool true, .int .i64 11, .int .i32 66]) (w.iter ⟨#[48, 49, 50, 51, 52, 53, 54, 55, 56, 57, 65, 66, 67, 68, 69, 70]⟩ 12) from run_next_ascii w ⟨#[48, 49, 50, 51, 52, 53, 54, 55, 56, 57, 65, 66, 67, 68, 69, 70]⟩ 11 ty (by decide) (by decide)
  have n12 := fun ty => show (Instr.next (.pointer (some ⟨w.heap.size, 0, none⟩)) true ty).run Tryz.prog (w.iter ⟨#[48, 49, 50, 51, 52, 53, 54, 55, 56, 57, 65, 66, 67, 68, 69, 70]⟩ 12) = .ok (.tuple #[.bool true, .int .i64 12, .int .i32 67]) (w.iter ⟨#[48, 49, 50, 51, 52, 53, 54, 55, 56, 57, 65, 66, 67, 68, 69, 70]⟩ 13) from run_next_ascii w ⟨#[48, 49, 50, 51, 52, 53, 54, 55, 56, 57, 65, 66, 67, 68, 69, 70]⟩ 12 ty (by decide) (by decide)
  have n13 := fun ty => show (Instr.next (.pointer (some ⟨w.heap.size, 0, none⟩)) true ty).run Tryz.prog (w.iter ⟨#[48, 49, 50, 51, 52, 53, 54, 55, 56, 57, 65, 66, 67, 68, 69, 70]⟩ 13) = .ok (.tuple #[.bool true, .int .i64 13, .int .i32 68]) (w.iter ⟨#[48, 49, 50, 51, 52, 53, 54, 55, 56, 57, 65, 66, 67, 68, 69, 70]⟩ 14) from run_next_ascii w ⟨#[48, 49, 50, 51, 52, 53, 54, 55, 56, 57, 65, 66, 67, 68, 69, 70]⟩ 13 ty (by decide) (by decide)
  have n14 := fun ty => show (Instr.next (.pointer (some ⟨w.heap.size, 0, none⟩)) true ty).run Tryz.prog (w.iter ⟨#[48, 49, 50, 51, 52, 53, 54, 55, 56, 57, 65, 66, 67, 68, 69, 70]⟩ 14) = .ok (.tuple #[.bool true, .int .i64 14, .int .i32 69]) (w.iter ⟨#[48, 49, 50, 51, 52, 53, 54, 55, 56, 57, 65, 66, 67, 68, 69, 70]⟩ 15) from run_next_ascii w ⟨#[48, 49, 50, 51, 52, 53, 54, 55, 56, 57, 65, 66, 67, 68, 69, 70]⟩ 14 ty (by decide) (by decide)
  have n15 := fun ty => show (Instr.next (.pointer (some ⟨w.heap.size, 0, none⟩)) true ty).run Tryz.prog (w.iter ⟨#[48, 49, 50, 51, 52, 53, 54, 55, 56, 57, 65, 66, 67, 68, 69, 70]⟩ 15) = .ok (.tuple #[.bool true, .int .i64 15, .int .i32 70]) (w.iter ⟨#[48, 49, 50, 51, 52, 53, 54, 55, 56, 57, 65, 66, 67, 68, 69, 70]⟩ 16) from run_next_ascii w ⟨#[48, 49, 50, 51, 52, 53, 54, 55, 56, 57, 65, 66, 67, 68, 69, 70]⟩ 15 ty (by decide) (by decide)
  have n16 := fun ty => show (Instr.next (.pointer (some ⟨w.heap.size, 0, none⟩)) true ty).run Tryz.prog (w.iter ⟨#[48, 49, 50, 51, 52, 53, 54, 55, 56, 57, 65, 66, 67, 68, 69, 70]⟩ 16) = .ok (.tuple #[.bool false]) (w.iter ⟨#[48, 49, 50, 51, 52, 53, 54, 55, 56, 57, 65, 66, 67, 68, 69, 70]⟩ 16) from run_next_end w ⟨#[48, 49, 50, 51, 52, 53, 54, 55, 56, 57, 65, 66, 67, 68, 69, 70]⟩ 16 ty (by decide)
  have hc : ∀ a b, (c == a) = b → decide (c = a) = b := by intro a b h; rw [← h]; rfl
  go_enter Tryz.func129, Tryz.ntmps129
  go_wp2
  refine wp_loop_rounds 17 ?_
  iterate 17
    all_goals (try rw [rounds_succ])
    go_wp2
  all_goals go_ret2
  all_goals (clear hc; clear n0 n1 n2 n3 n4 n5 n6 n7 n8 n9 n10 n11 n12 n13 n14 n15 n16)
  all_goals refine ⟨?_, (Below.refl _ _).alloc (Nat.le_refl _) _⟩
  all_goals simp only [beq_iff_eq, beq_eq_false_iff_ne, ne_eq] at *
  all_goals first
    | (subst_vars; rfl)
    | (have e1 : hv c = 0 := by unfold hv; rw [if_neg (by omega), if_neg (by omega)]
       have e2 : hvB c = false := by unfold hvB; simp; omega
       rw [e1, e2]; rfl)

/-- n digits' value from a place on -/
def acc (s : ByteArray) (a : Nat) : Nat → Int
  | 0 => 0
  | n + 1 => 16 * acc s a n + hv (PlainAid.bt s (a + n))
theorem hv_bd (c : Int) : 0 ≤ hv c ∧ hv c ≤ 15 := by unfold hv; split <;> (try split) <;> omega
theorem acc_bd (s : ByteArray) (a n : Nat) : 0 ≤ acc s a n ∧ acc s a n < 16 ^ n := by
  induction n with
  | zero => simp [acc]
  | succ n ih => have := hv_bd (PlainAid.bt s (a + n)); simp only [acc, Int.pow_succ]; omega
def accB (s : ByteArray) (a n : Nat) : Bool := (List.range n).all fun i => hvB (PlainAid.bt s (a + i))
theorem accB_succ (s : ByteArray) (a n : Nat) : accB s a (n + 1) = (accB s a n && hvB (PlainAid.bt s (a + n))) := by
  simp [accB, List.range_succ]

def numV (s : ByteArray) (a : Nat) : Int := if accB s a 4 then acc s a 4 else 0

set_option maxHeartbeats 2000000 in
set_option maxRecDepth 100000 in
theorem number_any (s : ByteArray) (a : Nat) (w : World) (h : a + 4 ≤ s.size) (hs : s.size ≤ maxLen) :
    Calls Tryz.prog 157 #[.string s, .int .i64 a] w fun e w' => e = .returned (.tuple #[.int .i64 (numV s a), .bool (accB s a 4)]) ∧ w = w' := by
  unfold maxLen at hs
  have hb := PlainAid.get_bt s
  go_enter Tryz.func157, Tryz.ntmps157
  go_wp2
  go_loop [6, 7] (fun n i => ∃ k : Nat, k ≤ 4 ∧ i = .int .i64 (a + k : Nat) ∧ n = .int .i64 (acc s a k) ∧ accB s a k = true) (fun _ i => a + 4 - (intOf i).toNat)
  case atStart => exact ⟨0, by omega, rfl, rfl, rfl⟩
  case round =>
    obtain ⟨k, hk, rfl, rfl, hB⟩ := hrel
    have HB := Lib.hid hB
    clear hB
    have hq := acc_bd s a k
    have hsucc : acc s a (k + 1) = 16 * acc s a k + hv (PlainAid.bt s (a + k)) := rfl
    have hsB := accB_succ s a k
    rw [HB.out, Bool.true_and] at hsB
    have hpow : (16 : Int) ^ k ≤ 16 ^ 4 := by
      have : k = 0 ∨ k = 1 ∨ k = 2 ∨ k = 3 ∨ k = 4 := by omega
      rcases this with rfl | rfl | rfl | rfl | rfl <;> decide
    obtain ⟨q0, q1⟩ := hq
    have q2 : acc s a k < 65536 := by omega
    clear q1 hpow
    have b0 := PlainAid.bt_nonneg s (a + k)
    have b1 := PlainAid.bt_le s (a + k)
    by_cases hlt : k < 4
    · by_cases hd : 48 ≤ PlainAid.bt s (a + k) ∧ PlainAid.bt s (a + k) ≤ 57
      · have e1 : hv (PlainAid.bt s (a + k)) = PlainAid.bt s (a + k) - 48 := by unfold hv; rw [if_pos hd]
        have e2 : hvB (PlainAid.bt s (a + k)) = true := by unfold hvB; simp [hd]
        rw [e1] at hsucc; rw [e2] at hsB
        have HS := Lib.hid hsucc; have HT := Lib.hid hsB
        obtain ⟨d0, d1⟩ := hd
        clear e1 e2 hsucc hsB
        go_wp2
        go_round
        case rel => exact ⟨k + 1, by omega, by go_num, by rw [HS.out]; go_num, HT.out⟩
        case measure => simp [intOf]; omega
      · by_cases hd' : 65 ≤ PlainAid.bt s (a + k) ∧ PlainAid.bt s (a + k) ≤ 70
        · have e1 : hv (PlainAid.bt s (a + k)) = PlainAid.bt s (a + k) - 55 := by unfold hv; rw [if_neg hd, if_pos hd']
          have e2 : hvB (PlainAid.bt s (a + k)) = true := by unfold hvB; simp [hd']
          rw [e1] at hsucc; rw [e2] at hsB
          have HS := Lib.hid hsucc; have HT := Lib.hid hsB
          obtain ⟨d0, d1⟩ := hd'
          clear e1 e2 hsucc hsB hd
          go_wp2
          go_round
          case rel => exact ⟨k + 1, by omega, by go_num, by rw [HS.out]; congr 1; omega, HT.out⟩
          case measure => simp [intOf]; omega
        · have e2 : hvB (PlainAid.bt s (a + k)) = false := by unfold hvB; simp; omega
          rw [e2] at hsB
          have HT : Hid (accB s a 4 = false) := by
            show accB s a 4 = false
            unfold accB at hsB ⊢
            rw [List.all_eq_false] at hsB ⊢
            obtain ⟨x, hx, hy⟩ := hsB
            exact ⟨x, by simp at hx ⊢; omega, hy⟩
          clear e2 hsucc hsB
          have hd1 : PlainAid.bt s (a + k) < 48 ∨ (57 < PlainAid.bt s (a + k) ∧ PlainAid.bt s (a + k) < 65) ∨ 70 < PlainAid.bt s (a + k) := by omega
          clear hd hd'
          rcases hd1 with hd | ⟨hd, hd'⟩ | hd
          all_goals
            go_wp2
            go_ret2
            exact ⟨by rw [numV, HT.out]; rfl, rfl⟩
    · have hk4 : k = 4 := by omega
      subst hk4
      clear hsucc hsB
      have HA : Hid (Ending.returned (.tuple #[.int .i64 (acc s a 4), .bool true]) = .returned (.tuple #[.int .i64 (numV s a), .bool (accB s a 4)])) := by
        show _ = _
        rw [numV, HB.out]; rfl
      go_wp2
      go_ret2
      exact ⟨HA.out, rfl⟩
end Go.Proofs.YtjbcbejedaeedaaGreatDoor
