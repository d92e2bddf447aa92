/- lecternref04: Order, Same: walks. -/
import Derived.Test.YtchjjfjjcdjjcaaGreatDoorOrd
import Derived.Test.YtchjjfjjcdjjcaaGreatDoorVi
namespace Go.Proofs.YtchjjfjjcdjjcaaGreatDoor
open Go.RowKit
open PlainAid (bt)

def OrdRel (xs ys : List Int) (w : World) (k : Nat) (W : World) : Prop := ord (xs.drop k) (ys.drop k) = ord xs ys ∧ k ≤ xs.length ∧ k ≤ ys.length ∧ Below w.heap.size w W

set_option maxHeartbeats 2000000 in
set_option maxRecDepth 100000 in
theorem r4order_any (xs ys : List Int) (v u : Value) (w : World) (hv : IntsAt 0 .i32 w v xs) (hu : IntsAt 0 .i32 w u ys) (hx : xs.length ≤ maxLen) (hy : ys.length ≤ maxLen) :
    Calls Tryz.prog 35 #[v, u] w fun e w' => e = .returned (.int .i64 (ord xs ys)) ∧ Below w.heap.size w w' := by
  obtain ⟨p, cp, rfl, hv2⟩ := hv
  obtain ⟨q, cq, rfl, hu2⟩ := hu
  have HV : Hid (IntsAt 0 .i32 w (.slice p xs.length cp) xs) := ⟨_, _, rfl, hv2⟩
  have HU : Hid (IntsAt 0 .i32 w (.slice q ys.length cq) ys) := ⟨_, _, rfl, hu2⟩
  clear hv2 hu2
  unfold maxLen at hx hy
  go_enter Tryz.func35, Tryz.ntmps35
  go_wp2
  go_loopw [5] (fun i wr => ∃ k : Nat, i = .int .i64 k ∧ OrdRel xs ys w k wr) (fun i _ => xs.length - (intOf i).toNat)
  case atStart => exact ⟨0, rfl, rfl, Nat.zero_le _, Nat.zero_le _, Below.refl _ _⟩
  case round =>
    obtain ⟨k, rfl, hr⟩ := hrel
    by_cases hlt : k < xs.length ∧ k < ys.length
    · obtain ⟨h1, h2⟩ := hlt
      obtain ⟨b, o, rfl, _, hb, hc⟩ := (HV.out.below (by exact (hr.2.2.2 : Below w.heap.size w wr))).at k h1
      obtain ⟨b2, o2, rfl, _, hb2, hc2⟩ := (HU.out.below (by exact (hr.2.2.2 : Below w.heap.size w wr))).at k h2
      have HD := Lib.hid (ord_drop xs ys k h1 h2)
      have HR := Lib.hid hr
      have HL : Hid (k < xs.length ∧ k < ys.length) := ⟨h1, h2⟩
      generalize xs.getD k 0 = x at hc HD
      generalize ys.getD k 0 = y at hc2 HD
      have h1' : decide (k < xs.length) = true := decide_eq_true h1
      have h2' : decide (k < ys.length) = true := decide_eq_true h2
      clear hr
      by_cases hxy : x < y
      · have hxy' : decide (x < y) = true := decide_eq_true hxy
        have HX : Hid (ord xs ys = -1) := by show _ = _; rw [← HR.out.1, HD.out, if_pos hxy]
        clear hxy
        go_wp2
        go_quiet (fail)
        go_wp2
        go_ret
        exact ⟨by rw [HX.out]; rfl, HR.out.2.2.2.trans (by first | exact below_drewN (below_drewN (Below.refl _ _) _) _ | exact below_drewN (Below.refl _ _) _)⟩
      · have hxy' : decide (x < y) = false := decide_eq_false hxy
        by_cases hyx : y < x
        · have hyx' : decide (y < x) = true := decide_eq_true hyx
          have HX : Hid (ord xs ys = 1) := by show _ = _; rw [← HR.out.1, HD.out, if_neg hxy, if_pos hyx]
          clear hxy hyx
          go_wp2
          go_quiet (fail)
          go_wp2
          go_quiet (fail)
          go_wp2
          go_ret
          exact ⟨by rw [HX.out]; rfl, HR.out.2.2.2.trans (by first | exact below_drewN (below_drewN (Below.refl _ _) _) _ | exact below_drewN (Below.refl _ _) _)⟩
        · have hyx' : decide (y < x) = false := decide_eq_false hyx
          have HX : Hid (ord (xs.drop (k + 1)) (ys.drop (k + 1)) = ord xs ys) := by show _ = _; rw [← HR.out.1, HD.out, if_neg hxy, if_neg hyx]
          clear hxy hyx
          go_wp2
          go_quiet (fail)
          go_wp2
          go_quiet (fail)
          go_wp2
          go_roundw
          case rel => exact ⟨k + 1, by go_num, HX.out, HL.out.1, HL.out.2, HR.out.2.2.2.trans (by first | exact below_drewN (below_drewN (Below.refl _ _) _) _ | exact below_drewN (Below.refl _ _) _)⟩
          case measure => (have hp := HL.out; simp [intOf]; omega)
    · have HX := Lib.hid (ord_end xs ys k hlt hr.2.1 hr.2.2.1)
      have HR := Lib.hid hr
      by_cases h1 : k < xs.length
      · have h1' : decide (k < xs.length) = true := decide_eq_true h1
        have h2' : decide (k < ys.length) = false := decide_eq_false (by omega)
        have h3 : decide (xs.length < ys.length) = false := decide_eq_false (by omega)
        have h4 : decide (ys.length < xs.length) = true := decide_eq_true (by have := hr.2.2.1; omega)
        have HX2 : Hid (ord xs ys = 1) := by show _ = _; rw [← hr.1, HX.out, if_neg (by omega), if_pos (by have := hr.2.2.1; omega)]
        clear hr hlt h1
        go_wp2
        go_ret
        exact ⟨by rw [HX2.out]; rfl, HR.out.2.2.2⟩
      · have h1' : decide (k < xs.length) = false := decide_eq_false h1
        by_cases h5 : xs.length < ys.length
        · have h3 : decide (xs.length < ys.length) = true := decide_eq_true h5
          have HX2 : Hid (ord xs ys = -1) := by show _ = _; rw [← hr.1, HX.out, if_pos h5]
          clear hr hlt h1 h5
          go_wp2
          go_ret
          exact ⟨by rw [HX2.out]; rfl, HR.out.2.2.2⟩
        · have h3 : decide (xs.length < ys.length) = false := decide_eq_false h5
          have h4 : decide (ys.length < xs.length) = false := decide_eq_false (by have := hr.2.2.1; have := hr.2.1; omega)
          have HX2 : Hid (ord xs ys = 0) := by show _ = _; rw [← hr.1, HX.out, if_neg h5, if_neg (by have := hr.2.2.1; have := hr.2.1; omega)]
          clear hr hlt h1 h5
          go_wp2
          go_ret
          exact ⟨by rw [HX2.out]; rfl, HR.out.2.2.2⟩

theorem ints_at0 {R : Nat → Prop} {k : IntKind} {w : World} {v : Value} {xs : List Int} (h : IntsIn R k w v xs) : IntsAt 0 k w v xs ∧ xs.length ≤ maxLen := by
  obtain ⟨p, cap, rfl, hc, h2⟩ := h
  refine ⟨⟨p, cap, rfl, fun i x hx => ?_⟩, Nat.le_trans hc.1 hc.2⟩
  obtain ⟨b, o, e1, _, e3, e4⟩ := h2 i x hx
  exact ⟨b, o, e1, Nat.zero_le _, e3, e4⟩
set_option maxHeartbeats 1000000 in
set_option maxRecDepth 100000 in
theorem r4same_any (R Q : Nat → Prop) (xs ys : List Int) (v u : Value) (w : World) (hv : IntsIn R .i32 w v xs) (hu : IntsIn Q .i32 w u ys) :
    Calls Tryz.prog 16 #[v, u] w fun e w' => e = .returned (.bool (decide (xs = ys))) ∧ Below w.heap.size w w' := by
  have HC := Lib.hid (r4order_any xs ys v u w (ints_at0 hv).1 (ints_at0 hu).1 (ints_at0 hv).2 (ints_at0 hu).2)
  have HZ : Hid (ord xs ys = 0 ↔ xs = ys) := ord_zero
  clear hv hu
  generalize ord xs ys = q at *
  by_cases hq : q = 0
  · have g1 : (q == 0) = true := by simpa using hq
    have HE : Hid (decide (xs = ys) = true) := decide_eq_true (HZ.out.1 hq)
    clear hq
    go_enter Tryz.func16, Tryz.ntmps16
    go_wp2_with fail
    refine HC.out.mono ?_
    rintro e w1 ⟨rfl, hb⟩
    go_wp2_with fail
    go_ret
    exact ⟨by rw [HE.out]; rfl, hb⟩
  · have g1 : (q == 0) = false := by simpa using hq
    have HE : Hid (decide (xs = ys) = false) := decide_eq_false (fun e => hq (HZ.out.2 e))
    clear hq
    go_enter Tryz.func16, Tryz.ntmps16
    go_wp2_with fail
    refine HC.out.mono ?_
    rintro e w1 ⟨rfl, hb⟩
    go_wp2_with fail
    go_ret
    exact ⟨by rw [HE.out]; rfl, hb⟩
end Go.Proofs.YtchjjfjjcdjjcaaGreatDoor
