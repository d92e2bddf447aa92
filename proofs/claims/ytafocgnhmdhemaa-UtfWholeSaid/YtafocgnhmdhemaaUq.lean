/- The law UtfWhole, walked. -/
import Derived.Test.YtafocgnhmdhemaaUo
import Derived.Test.YtafocgnhmdhemaaUp
namespace Go.Proofs.Ytafocgnhmdhemaa
open Go.RowKit
open PlainAid (bt)

def FwRel (a : ByteArray) (w : World) (q : Nat) (wr : World) : Prop := Way a 0 q ∧ q ≤ a.size ∧ Below w.heap.size w wr
def BkRel (a : ByteArray) (w : World) (q : Nat) (wr : World) : Prop := Way a 0 q ∧ q ≤ a.size ∧ Below w.heap.size w wr
def CkRel (a : ByteArray) (w : World) (q : Nat) (wr : World) : Prop := Way a q a.size ∧ q ≤ a.size ∧ Below w.heap.size w wr
theorem erN_pos {n : Nat} (h : n ≠ 0) : erN n = 0 := if_neg h

set_option maxHeartbeats 2000000 in
set_option maxRecDepth 100000 in
theorem law_whole (a b : ByteArray) (w : World) (ha : a.size ≤ 140737488351232) (hb : b.size ≤ 140737488351232) :
    Calls Try.prog 3 #[.string a, .string b] w fun e w' => e = .returned (.bool true) ∧ Below w.heap.size w w' := by
  have HA := Lib.hid ha
  have HB := Lib.hid hb
  by_cases hlen : 2000 < a.size + b.size
  · have hl1 : decide ((2000 : Int) < (a.size : Int) + (b.size : Int)) = true := decide_eq_true (by omega)
    clear hlen
    go_enter Try.func3, Try.ntmps3
    go_wp2_with fail
    refine (awake_any _).mono ?_
    rintro e w1 ⟨rfl, hb1⟩
    go_wp2_with fail
    go_ret
    exact ⟨rfl, hb1⟩
  · have hl1 : decide ((2000 : Int) < (a.size : Int) + (b.size : Int)) = false := decide_eq_false (by omega)
    have HAB : Hid ((a ++ b).size ≤ 140737488351232) := by
      show (a ++ b).size ≤ 140737488351232; rw [ByteArray.size_append]; omega
    have HZ : Hid (a.size ≤ 2000) := (show a.size ≤ 2000 by omega)
    clear hlen
    go_enter Try.func3, Try.ntmps3
    go_wp2_with fail
    refine (awake_any _).mono ?_
    rintro e w1 ⟨rfl, hb1⟩
    go_wp2_with fail
    refine (uCheck_any _ _ HA.out).mono ?_
    rintro e w2 ⟨rfl, hb2⟩
    go_wp2_with fail
    refine (uCheck_any _ _ HB.out).mono ?_
    rintro e w3 ⟨rfl, hb3⟩
    go_wp2_with fail
    refine (uCheck_any _ _ HAB.out).mono ?_
    rintro e w4 ⟨rfl, hb4⟩
    have HL : Hid (Below w.heap.size w w4) := by
      have := hb1.size; have := hb2.size; have := hb3.size
      exact ((hb1.trans (hb2.mono (by omega))).trans (hb3.mono (by omega))).trans (hb4.mono (by omega))
    clear hb1 hb2 hb3 hb4
    cases hA : BD a 0 with
    | none =>
      have hE : bdE a = 0 := (bd_none hA).2
      have hE2 : (bdE a == 0) = true := by rw [hE]; rfl
      have hx : (!(bdE b == 0) == (bdE (a ++ b) == 0)) = false := whole_if a b hA
      have HN := Lib.hid hA
      clear hE hA
      go_wp2_with fail
      go_loopw [11] (fun p wr => ∃ q : Nat, p = .int .i64 q ∧ FwRel a w q wr) (fun p _ => a.size - (intOf p).toNat)
      case atStart => exact ⟨0, rfl, .refl _, Nat.zero_le _, HL.out⟩
      case round =>
        obtain ⟨q, rfl, hr⟩ := hrel
        have HR := Lib.hid hr
        clear hr
        by_cases hlt : q < a.size
        · have hlt' : decide (q < a.size) = true := decide_eq_true hlt
          have hz : fmN a q ≠ 0 := by
            intro e
            have h1 := HR.out.1.bd
            rw [HN.out, BD_eq, if_neg (by omega), if_pos e] at h1; cases h1
          have hle := fmN_size a q hz
          have hn : decide ((fmN a q : Int) < 1) = false := decide_eq_false (by omega)
          have HLT := Lib.hid hlt
          have HZ2 := Lib.hid hz
          clear hlt hz
          go_wp2_with fail
          refine (next_in a q _ HA.out HLT.out).mono ?_
          rw [erN_pos HZ2.out]
          rintro e w5 ⟨rfl, hb5⟩
          go_wp2_with fail
          go_roundw
          case rel => exact ⟨q + fmN a q, by go_num, HR.out.1.trans (.step HZ2.out (.refl _)), hle, HR.out.2.2.trans (hb5.mono HR.out.2.2.size)⟩
          case measure => (have hp := HZ2.out; simp [intOf]; omega)
        · obtain rfl : q = a.size := (by have := HR.out.2.1; omega)
          have hlt' : decide (a.size < a.size) = false := decide_eq_false hlt
          clear hlt
          go_wp2_with fail
          go_loopw [15] (fun p wr => ∃ q : Nat, p = .int .i64 q ∧ BkRel a w q wr) (fun p _ => (intOf p).toNat)
          case atStart => exact ⟨a.size, rfl, HR.out⟩
          case round =>
            obtain ⟨q, rfl, hr⟩ := hrel
            have HR2 := Lib.hid hr
            clear hr
            by_cases hp : 0 < q
            · have hp' : decide (0 < q) = true := decide_eq_true hp
              have HK := Lib.hid (back_step a q HR2.out.1 hp)
              have hn : decide ((lsN a q : Int) < 1) = false := decide_eq_false (by have := HK.out.1; omega)
              have HP := Lib.hid hp
              have hsub : (q : Int) - (lsN a q : Int) = ((q - lsN a q : Nat) : Int) := (by have := HK.out.2.1; omega)
              have hbd : ((q - lsN a q : Nat) : Int) ≤ 2000 := (by have := HR2.out.2.1; have := HZ.out; omega)
              clear hp
              go_wp2_with fail
              refine (last_in a q _ HA.out HP.out HR2.out.2.1).mono ?_
              rw [erN_pos HK.out.1]
              rintro e w6 ⟨rfl, hb6⟩
              go_wp2_with fail
              go_roundw
              case rel => exact ⟨q - lsN a q, rfl, HK.out.2.2, Nat.le_trans (Nat.sub_le _ _) HR2.out.2.1, HR2.out.2.2.trans (hb6.mono HR2.out.2.2.size)⟩
              case measure => (have hp := HK.out; have hq := HP.out; simp [intOf]; omega)
            · obtain rfl : q = 0 := (by omega)
              clear hp
              go_wp2_with fail
              go_ret
              exact ⟨rfl, HR2.out.2.2⟩
    | some x =>
      have hE : bdE a = 40 := (bd_some hA).2
      have hE2 : (bdE a == 0) = false := by rw [hE]; rfl
      have HN := Lib.hid hA
      clear hE hA
      go_wp2_with fail
      go_loopw [11] (fun p wr => ∃ q : Nat, p = .int .i64 q ∧ FwRel a w q wr) (fun p _ => a.size - (intOf p).toNat)
      case atStart => exact ⟨0, rfl, .refl _, Nat.zero_le _, HL.out⟩
      case round =>
        obtain ⟨q, rfl, hr⟩ := hrel
        have HR := Lib.hid hr
        clear hr
        have hlt : q < a.size := by
          rcases Nat.lt_or_ge q a.size with h | h
          · exact h
          · have h1 := HR.out.1.bd
            rw [HN.out, BD_eq, if_pos h] at h1; cases h1
        have hlt' : decide (q < a.size) = true := decide_eq_true hlt
        have HLT := Lib.hid hlt
        by_cases hz : fmN a q = 0
        · have hge : decide (a.size ≤ q) = false := decide_eq_false (by omega)
          have hone : erN (fmN a q) = 40 := if_pos hz
          clear hlt hz
          go_wp2_with fail
          refine (next_in a q _ HA.out HLT.out).mono ?_
          rw [hone]
          clear hone
          rintro e w5 ⟨rfl, hb5⟩
          have HB5 := Lib.hid (HR.out.2.2.trans (hb5.mono HR.out.2.2.size))
          clear hb5
          go_wp2_with fail
          go_loopw [15] (fun p wr => ∃ q : Nat, p = .int .i64 q ∧ CkRel a w q wr) (fun p _ => (intOf p).toNat)
          case atStart => exact ⟨a.size, rfl, .refl _, Nat.le_refl _, HB5.out⟩
          case round =>
            obtain ⟨p, rfl, hr⟩ := hrel
            have HR2 := Lib.hid hr
            clear hr
            have hp : 0 < p := by
              rcases Nat.eq_zero_or_pos p with e | h
              · exfalso
                have h1 := HR2.out.1
                rw [e] at h1
                have h2 := h1.bd
                rw [HN.out, bd_end] at h2; cases h2
              · exact h
            have hp' : decide (0 < p) = true := decide_eq_true hp
            have HP := Lib.hid hp
            by_cases hl : lsN a p = 0
            · have hone : erN (lsN a p) = 40 := if_pos hl
              have hle : decide (p = 0) = false := decide_eq_false (by omega)
              clear hp hl
              go_wp2_with fail
              refine (last_in a p _ HA.out HP.out HR2.out.2.1).mono ?_
              rw [hone]
              clear hone
              rintro e w6 ⟨rfl, hb6⟩
              go_wp2_with fail
              go_ret
              exact ⟨rfl, HR2.out.2.2.trans (hb6.mono HR2.out.2.2.size)⟩
            · have HK := Lib.hid (back_keep a p HR2.out.1 hl)
              have hn : decide ((lsN a p : Int) < 1) = false := decide_eq_false (by omega)
              have hsub : (p : Int) - (lsN a p : Int) = ((p - lsN a p : Nat) : Int) := (by have := HK.out.1; omega)
              have hbd : ((p - lsN a p : Nat) : Int) ≤ 2000 := (by have := HR2.out.2.1; have := HZ.out; omega)
              have HL0 := Lib.hid hl
              clear hp hl
              go_wp2_with fail
              refine (last_in a p _ HA.out HP.out HR2.out.2.1).mono ?_
              rw [erN_pos HL0.out]
              rintro e w6 ⟨rfl, hb6⟩
              go_wp2_with fail
              go_roundw
              case rel => exact ⟨p - lsN a p, rfl, HK.out.2, Nat.le_trans (Nat.sub_le _ _) HR2.out.2.1, HR2.out.2.2.trans (hb6.mono HR2.out.2.2.size)⟩
              case measure => (have hp := HL0.out; have hq := HP.out; simp [intOf]; omega)
        · have hle := fmN_size a q hz
          have hn : decide ((fmN a q : Int) < 1) = false := decide_eq_false (by omega)
          have HZ2 := Lib.hid hz
          clear hlt hz
          go_wp2_with fail
          refine (next_in a q _ HA.out HLT.out).mono ?_
          rw [erN_pos HZ2.out]
          rintro e w5 ⟨rfl, hb5⟩
          go_wp2_with fail
          go_roundw
          case rel => exact ⟨q + fmN a q, by go_num, HR.out.1.trans (.step HZ2.out (.refl _)), hle, HR.out.2.2.trans (hb5.mono HR.out.2.2.size)⟩
          case measure => (have hp := HZ2.out; have hq := HLT.out; simp [intOf]; omega)
end Go.Proofs.Ytafocgnhmdhemaa
