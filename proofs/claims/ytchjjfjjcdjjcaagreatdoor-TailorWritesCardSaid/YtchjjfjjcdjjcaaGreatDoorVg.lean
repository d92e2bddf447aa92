/- Next and Last of package utf and of the reference: walks. -/
import Derived.Test.YtchjjfjjcdjjcaaGreatDoorVe
namespace Go.Proofs.YtchjjfjjcdjjcaaGreatDoor
open Go.RowKit
open PlainAid (bt)

def erN (n : Nat) : Int := if n = 0 then 40 else 0
set_option maxHeartbeats 1000000 in
set_option maxRecDepth 100000 in
theorem next_out (s : ByteArray) (a : Int) (w : World) (hs : s.size ≤ 140737488351232) (h : a < 0 ∨ (s.size : Int) ≤ a) :
    Calls Tryz.prog 79 #[.string s, .int .i64 a] w fun e w' => e = .returned (.tuple #[.int .i32 0, .int .i64 0, .int .i64 1]) ∧ Below w.heap.size w w' := by
  by_cases h0 : a < 0
  · clear h
    go_enter Tryz.func79, Tryz.ntmps79
    go_wp2
    go_ret3
    exact ⟨rfl, Below.refl _ _⟩
  · have h' : (s.size : Int) ≤ a := by omega
    clear h
    go_enter Tryz.func79, Tryz.ntmps79
    go_wp2
    go_ret3
    exact ⟨rfl, Below.refl _ _⟩

set_option maxHeartbeats 1000000 in
set_option maxRecDepth 100000 in
theorem next_in (s : ByteArray) (a : Nat) (w : World) (hs : s.size ≤ 140737488351232) (h : a < s.size) :
    Calls Tryz.prog 79 #[.string s, .int .i64 a] w fun e w' => e = .returned (.tuple #[.int .i32 (fmR s a), .int .i64 (fmN s a), .int .i64 (erN (fmN s a))]) ∧ Below w.heap.size w w' := by
  have HF := Lib.hid (fm_suffix s a h)
  have HS : Hid ((s.extract a s.size).size ≤ maxLen) := by
    show _; rw [size_extract' s a s.size (Nat.le_refl _) (by omega)]; exact Nat.le_trans (Nat.sub_le _ _) (Nat.le_trans hs (by decide))
  by_cases hz : fmN s a = 0
  · have HR := Lib.hid (fmR_zero s a hz)
    have hz' : ((fmN s a : Int) == 0) = true := by rw [hz]; rfl
    have HZ := Lib.hid hz
    clear hz
    go_enter Tryz.func79, Tryz.ntmps79
    go_wp2_with fail
    refine (form_any _ _ HS.out).mono ?_
    rw [HF.out.1, HF.out.2]
    rintro e w1 ⟨rfl, hb1⟩
    go_wp2_with fail
    go_ret3
    exact ⟨by rw [HR.out, HZ.out]; rfl, hb1⟩
  · have hz' : ((fmN s a : Int) == 0) = false := beq_eq_false_iff_ne.2 (by omega)
    have HE : Hid (erN (fmN s a) = 0) := if_neg hz
    clear hz
    go_enter Tryz.func79, Tryz.ntmps79
    go_wp2_with fail
    refine (form_any _ _ HS.out).mono ?_
    rw [HF.out.1, HF.out.2]
    rintro e w1 ⟨rfl, hb1⟩
    go_wp2_with fail
    go_ret3
    exact ⟨by rw [HE.out]; rfl, hb1⟩

set_option maxHeartbeats 1000000 in
set_option maxRecDepth 100000 in
theorem rnext_out (s : ByteArray) (a : Int) (w : World) (hs : s.size ≤ 140737488351232) (h : a < 0 ∨ (s.size : Int) ≤ a) :
    Calls Tryz.prog 50 #[.string s, .int .i64 a] w fun e w' => e = .returned (.tuple #[.int .i32 0, .int .i64 0, .int .i64 1]) ∧ Below w.heap.size w w' := by
  by_cases h0 : a < 0
  · clear h
    go_enter Tryz.func50, Tryz.ntmps50
    go_wp2
    go_ret3
    exact ⟨rfl, Below.refl _ _⟩
  · have h' : (s.size : Int) ≤ a := by omega
    clear h
    go_enter Tryz.func50, Tryz.ntmps50
    go_wp2
    go_ret3
    exact ⟨rfl, Below.refl _ _⟩

set_option maxHeartbeats 1000000 in
set_option maxRecDepth 100000 in
theorem rnext_in (s : ByteArray) (a : Nat) (w : World) (hs : s.size ≤ 140737488351232) (h : a < s.size) :
    Calls Tryz.prog 50 #[.string s, .int .i64 a] w fun e w' => e = .returned (.tuple #[.int .i32 (fmR s a), .int .i64 (fmN s a), .int .i64 (erN (fmN s a))]) ∧ Below w.heap.size w w' := by
  have HS := Lib.hid hs
  have HA : Hid (a ≤ s.size) := Nat.le_of_lt h
  by_cases hz : fmN s a = 0
  · have HR := Lib.hid (fmR_zero s a hz)
    have hz' : ((fmN s a : Int) == 0) = true := by rw [hz]; rfl
    have HZ := Lib.hid hz
    clear hz
    go_enter Tryz.func50, Tryz.ntmps50
    go_wp2_with fail
    refine (at_any _ _ _ HS.out HA.out).mono ?_
    rintro e w1 ⟨rfl, hb1⟩
    go_wp2_with fail
    go_ret3
    exact ⟨by rw [HR.out, HZ.out]; rfl, hb1⟩
  · have hz' : ((fmN s a : Int) == 0) = false := beq_eq_false_iff_ne.2 (by omega)
    have HE : Hid (erN (fmN s a) = 0) := if_neg hz
    clear hz
    go_enter Tryz.func50, Tryz.ntmps50
    go_wp2_with fail
    refine (at_any _ _ _ HS.out HA.out).mono ?_
    rintro e w1 ⟨rfl, hb1⟩
    go_wp2_with fail
    go_ret3
    exact ⟨by rw [HE.out]; rfl, hb1⟩
end Go.Proofs.YtchjjfjjcdjjcaaGreatDoor
