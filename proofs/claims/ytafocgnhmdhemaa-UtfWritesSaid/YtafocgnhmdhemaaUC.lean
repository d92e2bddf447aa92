/- The law UtfReads, walked. -/
import Derived.Test.YtafocgnhmdhemaaUB
import Derived.Test.YtafocgnhmdhemaaUx
import Derived.Test.YtafocgnhmdhemaaUh
import Derived.Test.YtafocgnhmdhemaaUo
namespace Go.Proofs.Ytafocgnhmdhemaa
open Go.RowKit
open PlainAid (bt)

def nxR (s : ByteArray) (a : Int) : Int := if a < 0 ∨ (s.size : Int) ≤ a then 0 else fmR s a.toNat
def nxN (s : ByteArray) (a : Int) : Int := if a < 0 ∨ (s.size : Int) ≤ a then 0 else fmN s a.toNat
def nxE (s : ByteArray) (a : Int) : Int := if a < 0 ∨ (s.size : Int) ≤ a then 1 else erN (fmN s a.toNat)
def ltR (s : ByteArray) (a : Int) : Int := if a < 1 ∨ (s.size : Int) < a then 0 else lsR s a.toNat
def ltN (s : ByteArray) (a : Int) : Int := if a < 1 ∨ (s.size : Int) < a then 0 else lsN s a.toNat
def ltE (s : ByteArray) (a : Int) : Int := if a < 1 ∨ (s.size : Int) < a then 1 else erN (lsN s a.toNat)
theorem next_any (s : ByteArray) (a : Int) (w : World) (hs : s.size ≤ 140737488351232) :
    Calls Try.prog 10 #[.string s, .int .i64 a] w fun e w' => e = .returned (.tuple #[.int .i32 (nxR s a), .int .i64 (nxN s a), .int .i64 (nxE s a)]) ∧ Below w.heap.size w w' := by
  unfold nxR nxN nxE
  by_cases h : a < 0 ∨ (s.size : Int) ≤ a
  · simp only [if_pos h]; exact next_out s a w hs h
  · simp only [if_neg h]
    obtain ⟨n, rfl⟩ : ∃ n : Nat, a = n := ⟨a.toNat, by omega⟩
    exact next_in s n w hs (by omega)
theorem rnext_any (s : ByteArray) (a : Int) (w : World) (hs : s.size ≤ 140737488351232) :
    Calls Try.prog 13 #[.string s, .int .i64 a] w fun e w' => e = .returned (.tuple #[.int .i32 (nxR s a), .int .i64 (nxN s a), .int .i64 (nxE s a)]) ∧ Below w.heap.size w w' := by
  unfold nxR nxN nxE
  by_cases h : a < 0 ∨ (s.size : Int) ≤ a
  · simp only [if_pos h]; exact rnext_out s a w hs h
  · simp only [if_neg h]
    obtain ⟨n, rfl⟩ : ∃ n : Nat, a = n := ⟨a.toNat, by omega⟩
    exact rnext_in s n w hs (by omega)
theorem last_any (s : ByteArray) (a : Int) (w : World) (hs : s.size ≤ 140737488351232) :
    Calls Try.prog 11 #[.string s, .int .i64 a] w fun e w' => e = .returned (.tuple #[.int .i32 (ltR s a), .int .i64 (ltN s a), .int .i64 (ltE s a)]) ∧ Below w.heap.size w w' := by
  unfold ltR ltN ltE
  by_cases h : a < 1 ∨ (s.size : Int) < a
  · simp only [if_pos h]; exact last_out s a w hs h
  · simp only [if_neg h]
    obtain ⟨n, rfl⟩ : ∃ n : Nat, a = n := ⟨a.toNat, by omega⟩
    exact last_in s n w hs (by omega) (by omega)
theorem rlast_any (s : ByteArray) (a : Int) (w : World) (hs : s.size ≤ 140737488351232) :
    Calls Try.prog 24 #[.string s, .int .i64 a] w fun e w' => e = .returned (.tuple #[.int .i32 (ltR s a), .int .i64 (ltN s a), .int .i64 (ltE s a)]) ∧ Below w.heap.size w w' := by
  unfold ltR ltN ltE
  by_cases h : a < 1 ∨ (s.size : Int) < a
  · simp only [if_pos h]; exact rlast_out s a w hs h
  · simp only [if_neg h]
    obtain ⟨n, rfl⟩ : ∃ n : Nat, a = n := ⟨a.toNat, by omega⟩
    exact rlast_in s n w hs (by omega) (by omega)
theorem dc_len (s : ByteArray) (h : s.size ≤ 35184372088000) : (dcV s).length ≤ maxLen := by
  have : ∀ n p, (dc s n p).length ≤ n := by
    intro n
    induction n with
    | zero => intro p; simp [dc]
    | succ n ih =>
      intro p; unfold dc
      split
      · simp
      · split
        · simp
        · have := ih (p + fmN s p); simp; omega
  unfold dcV maxLen
  split
  · have := this (s.size + 1) 0; unfold DC; omega
  · simp
theorem same_same (xs : List Int) (v u : Value) (w : World) (hv : IntsAt 0 .i32 w v xs) (hu : IntsAt 0 .i32 w u xs) (hx : xs.length ≤ maxLen) :
    Calls Try.prog 21 #[v, u] w fun e w' => e = .returned (.bool true) ∧ Below w.heap.size w w' :=
  (same_any xs xs v u w hv hu hx hx).mono fun e w' ⟨h1, h2⟩ => ⟨by rw [h1, decide_eq_true rfl], h2⟩

set_option maxHeartbeats 4000000 in
set_option maxRecDepth 100000 in
theorem law_reads (s : ByteArray) (a m : Int) (w : World) (hs : s.size ≤ 140737488351232) (hm : m ≤ 9223372036854775807) :
    Calls Try.prog 7 #[.string s, .int .i64 a, .int .i64 m] w fun e w' => e = .returned (.bool true) ∧ Below w.heap.size w w' := by
  by_cases hlen : 3000 < s.size
  · have hl1 : decide ((3000 : Int) < (s.size : Int)) = true := decide_eq_true (by omega)
    have hl2 : decide (3000 < s.size) = true := decide_eq_true (by omega)
    clear hlen
    go_enter Try.func7, Try.ntmps7
    go_wp2_with fail
    refine (awake_any _).mono ?_
    rintro e w1 ⟨rfl, hb1⟩
    go_wp2_with fail
    go_ret
    exact ⟨rfl, hb1⟩
  · have hl1 : decide ((3000 : Int) < (s.size : Int)) = false := decide_eq_false (by omega)
    have hl2 : decide (3000 < s.size) = false := decide_eq_false (by omega)
    have HS2 : Hid (s.size ≤ 35184372088000) := (show s.size ≤ 35184372088000 by omega)
    have HS := Lib.hid hs
    have HM := Lib.hid hm
    have HN := Lib.hid (dc_len s HS2.out)
    clear hlen hm
    go_enter Try.func7, Try.ntmps7
    go_wp2_with fail
    refine (awake_any _).mono ?_
    rintro e w1 ⟨rfl, hb1⟩
    have K1 := Lib.hid hb1; clear hb1
    go_wp2_with fail
    refine (uCheck_any _ _ HS.out).mono ?_
    rintro e w2 ⟨rfl, hb2⟩
    have K2 := Lib.hid (K1.out.trans (hb2.mono K1.out.size)); clear hb2 K1
    go_wp2_with fail
    refine (rCheck_any _ _ HS.out).mono ?_
    rintro e w3 ⟨rfl, hb3⟩
    have K3 := Lib.hid (K2.out.trans (hb3.mono K2.out.size)); clear hb3 K2
    go_wp2_with fail
    refine (uDecode_any _ _ HS2.out).mono ?_
    rintro e w4 ⟨v, rfl, hv, hb4⟩
    have K4 := Lib.hid (K3.out.trans (hb4.mono K3.out.size)); clear hb4 K3
    have HV := Lib.hid (hv.ints.mono (Nat.zero_le _)); clear hv
    go_wp2_with fail
    refine (rDecode_any _ _ HS2.out).mono ?_
    rintro e w5 ⟨u, rfl, hu, hb5⟩
    have K5 := Lib.hid (K4.out.trans (hb5.mono K4.out.size))
    have HV5 := Lib.hid (HV.out.below hb5)
    have HU := Lib.hid (hu.ints.mono (Nat.zero_le _)); clear hu hb5 K4 HV
    obtain ⟨p, cap, hue, _⟩ := HU.out
    subst hue
    go_wp2_with fail
    refine (same_same _ _ _ _ HV5.out HU.out HN.out).mono ?_
    rintro e w6 ⟨rfl, hb6⟩
    have K6 := Lib.hid (K5.out.trans (hb6.mono K5.out.size)); clear hb6 K5
    go_wp2_with fail
    refine (next_any _ _ _ HS.out).mono ?_
    rintro e w7 ⟨rfl, hb7⟩
    have K7 := Lib.hid (K6.out.trans (hb7.mono K6.out.size)); clear hb7 K6
    go_wp2_with fail
    refine (rnext_any _ _ _ HS.out).mono ?_
    rintro e w8 ⟨rfl, hb8⟩
    have K8 := Lib.hid (K7.out.trans (hb8.mono K7.out.size)); clear hb8 K7
    go_wp2_with fail
    refine (last_any _ _ _ HS.out).mono ?_
    rintro e w9 ⟨rfl, hb9⟩
    have K9 := Lib.hid (K8.out.trans (hb9.mono K8.out.size)); clear hb9 K8
    go_wp2_with fail
    refine (rlast_any _ _ _ HS.out).mono ?_
    rintro e w10 ⟨rfl, hb10⟩
    have K10 := Lib.hid (K9.out.trans (hb10.mono K9.out.size)); clear hb10 K9
    go_wp2_with fail
    refine (uCut_any _ _ _ HS.out HM.out).mono ?_
    rintro e w11 ⟨rfl, hb11⟩
    have K11 := Lib.hid (K10.out.trans (hb11.mono K10.out.size)); clear hb11 K10
    go_wp2_with fail
    refine (rCut_any _ _ _ HS.out HM.out).mono ?_
    rintro e w12 ⟨rfl, hb12⟩
    have K12 := Lib.hid (K11.out.trans (hb12.mono K11.out.size)); clear hb12 K11
    go_wp2_with fail
    refine (uCount_any _ _ HS2.out).mono ?_
    rintro e w13 ⟨rfl, hb13⟩
    have K13 := Lib.hid (K12.out.trans (hb13.mono K12.out.size)); clear hb13 K12
    go_wp2_with fail
    refine (rDecode_any _ _ HS2.out).mono ?_
    rintro e w14 ⟨u2, rfl, _, hb14⟩
    have K14 := Lib.hid (K13.out.trans (hb14.mono K13.out.size)); clear hb14 K13
    go_wp2_with fail
    go_ret
    exact ⟨rfl, K14.out⟩
end Go.Proofs.Ytafocgnhmdhemaa
