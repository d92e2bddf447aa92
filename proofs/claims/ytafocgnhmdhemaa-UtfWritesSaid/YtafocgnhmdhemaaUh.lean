/- Last of the reference: the walk. -/
import Derived.Test.YtafocgnhmdhemaaUg
namespace Go.Proofs.Ytafocgnhmdhemaa
open Go.RowKit
open PlainAid (bt)

set_option maxHeartbeats 1000000 in
set_option maxRecDepth 100000 in
theorem rlast_out (s : ByteArray) (a : Int) (w : World) (hs : s.size ≤ 140737488351232) (h : a < 1 ∨ (s.size : Int) < a) :
    Calls Try.prog 24 #[.string s, .int .i64 a] w fun e w' => e = .returned (.tuple #[.int .i32 0, .int .i64 0, .int .i64 1]) ∧ Below w.heap.size w w' := by
  by_cases h0 : a < 1
  · clear h
    go_enter Try.func24, Try.ntmps24
    go_wp2
    go_ret3
    exact ⟨rfl, Below.refl _ _⟩
  · have h' : (s.size : Int) < a := by omega
    clear h
    go_enter Try.func24, Try.ntmps24
    go_wp2
    go_ret3
    exact ⟨rfl, Below.refl _ _⟩

set_option maxHeartbeats 2000000 in
set_option maxRecDepth 100000 in
theorem rlast_in (s : ByteArray) (a : Nat) (w : World) (hs : s.size ≤ 140737488351232) (h0 : 1 ≤ a) (h1 : a ≤ s.size) :
    Calls Try.prog 24 #[.string s, .int .i64 a] w fun e w' => e = .returned (.tuple #[.int .i32 (lsR s a), .int .i64 (lsN s a), .int .i64 (erN (lsN s a))]) ∧ Below w.heap.size w w' := by
  have ha1 : decide ((a : Int) < 1) = false := decide_eq_false (by omega)
  have ha2 : decide (s.size < a) = false := decide_eq_false (by omega)
  go_enter Try.func24, Try.ntmps24
  go_wp2
  go_loopw [7] (fun n wr => ∃ k : Nat, 1 ≤ k ∧ k ≤ 5 ∧ n = .int .i64 k ∧ LsRel s a w k wr) (fun n _ => 5 - (intOf n).toNat)
  case atStart => exact ⟨1, by omega, by omega, rfl, fun m a1 a2 => by omega, Below.refl _ _⟩
  case round =>
    obtain ⟨k, hk0, hk1, rfl, hR⟩ := hrel
    have HR := Lib.hid hR
    clear hR
    by_cases hlt : k ≤ 4 ∧ k ≤ a
    · obtain ⟨hk4, hka⟩ := hlt
      have hltn : k ≤ a := hka
      have hsub : ((a : Int) - (k : Int)).toNat = a - k := by omega
      have hsub2 : (a : Int) - (k : Int) = ((a - k : Nat) : Int) := by omega
      have HP := Lib.hid (ls_pre s a k h1 hk0 hka)
      have HS : Hid ((s.extract 0 a).size ≤ 140737488351232) := by
        show _; rw [size_pre s a h1]; exact Nat.le_trans h1 hs
      have HA : Hid (a - k ≤ (s.extract 0 a).size) := by
        show a - k ≤ (s.extract 0 a).size; rw [size_pre s a h1]; omega
      cases hB : lsB s a k
      · have HB := Lib.hid hB
        have hne : Hid (fmN (s.extract 0 a) (a - k) ≠ k) := HP.out.2 hB
        have hne' : (((fmN (s.extract 0 a) (a - k) : Nat) : Int) == (k : Int)) = false := beq_eq_false_iff_ne.2 (fun e => hne.out (by exact_mod_cast e))
        clear hB
        go_wp2_with fail
        refine (at_any _ _ _ HS.out HA.out).mono ?_
        rintro e w1 ⟨rfl, hb1⟩
        go_wp2_with fail
        go_roundw
        case rel => exact ⟨k + 1, by omega, by omega, by go_num, lsRel_step HR.out HB.out hb1⟩
        case measure => simp [intOf]; omega
      · have hh := HP.out.1 hB
        have HV := Lib.hid (ls_hit s a k hk0 hk4 hB HR.out.1)
        have he : (((fmN (s.extract 0 a) (a - k) : Nat) : Int) == (k : Int)) = true := by rw [hh.2]; exact beq_self_eq_true _
        have HH := Lib.hid hh
        clear hB hh
        go_wp2_with fail
        refine (at_any _ _ _ HS.out HA.out).mono ?_
        rintro e w1 ⟨rfl, hb1⟩
        go_wp2_with fail
        go_ret3
        exact ⟨by rw [HV.out.1, HV.out.2, HH.out.1, show erN k = 0 from by unfold erN; rw [if_neg (by omega)]]; rfl, HR.out.2.trans (hb1.mono HR.out.2.size)⟩
    · have HV := Lib.hid (ls_miss s a (fun m a1 a2 => by
        by_cases c : m < k
        · exact HR.out.1 m a1 c
        · unfold lsB; exact decide_eq_false (by omega)))
      by_cases hk4 : k ≤ 4
      · have hka : a < k := by omega
        clear hlt
        go_wp2_with fail
        go_ret3
        exact ⟨by rw [HV.out.1, HV.out.2]; rfl, HR.out.2⟩
      · have hk5 : 5 ≤ k := by omega
        clear hlt hk4
        go_wp2_with fail
        go_ret3
        exact ⟨by rw [HV.out.1, HV.out.2]; rfl, HR.out.2⟩
end Go.Proofs.Ytafocgnhmdhemaa
