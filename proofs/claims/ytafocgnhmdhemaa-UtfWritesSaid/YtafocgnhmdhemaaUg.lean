/- Last of package utf and of the reference: walks. -/
import Derived.Test.YtafocgnhmdhemaaUf
namespace Go.Proofs.Ytafocgnhmdhemaa
open Go.RowKit
open PlainAid (bt)

def LsRel (s : ByteArray) (a : Nat) (w : World) (k : Nat) (wr : World) : Prop := (∀ m, 1 ≤ m → m < k → lsB s a m = false) ∧ Below w.heap.size w wr
theorem lsRel_step {s : ByteArray} {a : Nat} {w wr w' : World} {k : Nat} (h : LsRel s a w k wr) (hk : lsB s a k = false) (hb : Below wr.heap.size wr w') : LsRel s a w (k + 1) w' :=
  ⟨fun m h1 h2 => by
    by_cases e : m = k
    · rw [e]; exact hk
    · exact h.1 m h1 (by omega), h.2.trans (hb.mono h.2.size)⟩
theorem ls_piece (s : ByteArray) (a k : Nat) (h1 : a ≤ s.size) (hk0 : 1 ≤ k) (hk : k ≤ a) :
    (lsB s a k = true → fmR (s.extract (a - k) a) 0 = fmR s (a - k) ∧ fmN (s.extract (a - k) a) 0 = k) ∧ (lsB s a k = false → fmN (s.extract (a - k) a) 0 ≠ k) := by
  obtain ⟨p1, p2⟩ := fm_piece s (a - k) a h1 (by omega)
  refine ⟨fun h => ?_, fun h => ?_⟩
  · have h' := of_decide_eq_true h
    have := p1 (by omega)
    exact ⟨this.1, by rw [this.2]; exact h'.2⟩
  · have h' := of_decide_eq_false h
    by_cases c : a - k + fmN s (a - k) ≤ a
    · rw [(p1 c).2]; intro e; exact h' ⟨hk, e⟩
    · rw [(p2 c).2]; omega
theorem ls_pre (s : ByteArray) (a k : Nat) (h1 : a ≤ s.size) (hk0 : 1 ≤ k) (hk : k ≤ a) :
    (lsB s a k = true → fmR (s.extract 0 a) (a - k) = fmR s (a - k) ∧ fmN (s.extract 0 a) (a - k) = k) ∧ (lsB s a k = false → fmN (s.extract 0 a) (a - k) ≠ k) := by
  obtain ⟨p1, p2⟩ := fm_pre s a (a - k) h1
  refine ⟨fun h => ?_, fun h => ?_⟩
  · have h' := of_decide_eq_true h
    have := p1 (by omega)
    exact ⟨this.1, by rw [this.2]; exact h'.2⟩
  · have h' := of_decide_eq_false h
    by_cases c : a - k + fmN s (a - k) ≤ a
    · rw [(p1 c).2]; intro e; exact h' ⟨hk, e⟩
    · rw [(p2 c).2]; omega

set_option maxHeartbeats 1000000 in
set_option maxRecDepth 100000 in
theorem last_out (s : ByteArray) (a : Int) (w : World) (hs : s.size ≤ 140737488351232) (h : a < 1 ∨ (s.size : Int) < a) :
    Calls Try.prog 11 #[.string s, .int .i64 a] w fun e w' => e = .returned (.tuple #[.int .i32 0, .int .i64 0, .int .i64 1]) ∧ Below w.heap.size w w' := by
  by_cases h0 : a < 1
  · clear h
    go_enter Try.func11, Try.ntmps11
    go_wp2
    go_ret3
    exact ⟨rfl, Below.refl _ _⟩
  · have h' : (s.size : Int) < a := by omega
    clear h
    go_enter Try.func11, Try.ntmps11
    go_wp2
    go_ret3
    exact ⟨rfl, Below.refl _ _⟩

set_option maxHeartbeats 2000000 in
set_option maxRecDepth 100000 in
theorem last_in (s : ByteArray) (a : Nat) (w : World) (hs : s.size ≤ 140737488351232) (h0 : 1 ≤ a) (h1 : a ≤ s.size) :
    Calls Try.prog 11 #[.string s, .int .i64 a] w fun e w' => e = .returned (.tuple #[.int .i32 (lsR s a), .int .i64 (lsN s a), .int .i64 (erN (lsN s a))]) ∧ Below w.heap.size w w' := by
  have ha1 : decide ((a : Int) < 1) = false := decide_eq_false (by omega)
  have ha2 : decide (s.size < a) = false := decide_eq_false (by omega)
  go_enter Try.func11, Try.ntmps11
  go_wp2
  go_loopw [7] (fun n wr => ∃ k : Nat, 1 ≤ k ∧ k ≤ 5 ∧ n = .int .i64 k ∧ LsRel s a w k wr) (fun n _ => 5 - (intOf n).toNat)
  case atStart => exact ⟨1, by omega, by omega, rfl, fun m a1 a2 => by omega, Below.refl _ _⟩
  case round =>
    obtain ⟨k, hk0, hk1, rfl, hR⟩ := hrel
    have HR := Lib.hid hR
    clear hR
    by_cases hlt : k ≤ 4 ∧ k ≤ a
    · obtain ⟨hk4, hka⟩ := hlt
      have hsub : ((a : Int) - (k : Int)).toNat = a - k := by omega
      have hsub2 : (a : Int) - (k : Int) = ((a - k : Nat) : Int) := by omega
      have HP := Lib.hid (ls_piece s a k h1 hk0 hka)
      have HS : Hid ((s.extract (a - k) a).size ≤ maxLen) := by
        show _; rw [size_extract' s (a - k) a h1 (by omega)]; exact Nat.le_trans (Nat.sub_le _ _) (Nat.le_trans (Nat.le_trans h1 hs) (by decide))
      cases hB : lsB s a k
      · have HB := Lib.hid hB
        have hne : Hid (fmN (s.extract (a - k) a) 0 ≠ k) := HP.out.2 hB
        have hne' : (((fmN (s.extract (a - k) a) 0 : Nat) : Int) == (k : Int)) = false := beq_eq_false_iff_ne.2 (fun e => hne.out (by exact_mod_cast e))
        clear hB
        go_wp2_with fail
        refine (form_any _ _ HS.out).mono ?_
        rintro e w1 ⟨rfl, hb1⟩
        go_wp2_with fail
        go_roundw
        case rel => exact ⟨k + 1, by omega, by omega, by go_num, lsRel_step HR.out HB.out hb1⟩
        case measure => simp [intOf]; omega
      · have hh := HP.out.1 hB
        have HV := Lib.hid (ls_hit s a k hk0 hk4 hB HR.out.1)
        have he : (((fmN (s.extract (a - k) a) 0 : Nat) : Int) == (k : Int)) = true := by rw [hh.2]; exact beq_self_eq_true _
        have HH := Lib.hid hh
        clear hB hh
        go_wp2_with fail
        refine (form_any _ _ HS.out).mono ?_
        rintro e w1 ⟨rfl, hb1⟩
        go_wp2_with fail
        go_ret3
        exact ⟨by rw [HV.out.1, HV.out.2, HH.out.1, show erN k = 0 from by unfold erN; rw [if_neg (by omega)]]; rfl, HR.out.2.trans (hb1.mono HR.out.2.size)⟩
    · have HV := Lib.hid (ls_miss s a (fun m a1 a2 => by
        by_cases c : m < k
        · exact HR.out.1 m a1 c
        · unfold lsB; exact decide_eq_false (by omega)))
      by_cases hk4 : k ≤ 4
      · have hka : a < k := by omega
        clear hlt
        go_wp2_with fail
        go_ret3
        exact ⟨by rw [HV.out.1, HV.out.2]; rfl, HR.out.2⟩
      · have hk5 : 5 ≤ k := by omega
        clear hlt hk4
        go_wp2_with fail
        go_ret3
        exact ⟨by rw [HV.out.1, HV.out.2]; rfl, HR.out.2⟩
end Go.Proofs.Ytafocgnhmdhemaa
