/- The reference: lists alike, and what begins with what. -/
import Derived.Test.YtcifoallahmjbaaTq
namespace Go.Proofs.Ytcifoallahmjbaa
open Go.RowKit

theorem take_eq_step {xs ys : List Int} {k : Nat} (hl : xs.length = ys.length) (hk : k < xs.length) (h : xs.take k = ys.take k) : (xs.take (k + 1) = ys.take (k + 1) ↔ xs.getD k 0 = ys.getD k 0) := by
  have e1 : xs.take (k + 1) = xs.take k ++ [xs.getD k 0] := take_snoc' (by rw [List.getD_eq_getElem?_getD, List.getElem?_eq_getElem hk]; rfl)
  have e2 : ys.take (k + 1) = ys.take k ++ [ys.getD k 0] := take_snoc' (by rw [List.getD_eq_getElem?_getD, List.getElem?_eq_getElem (show k < ys.length by omega)]; rfl)
  rw [e1, e2, h]
  constructor
  · intro e; have := List.append_cancel_left e; simpa using this
  · intro e; rw [e]

set_option maxHeartbeats 2000000 in
set_option maxRecDepth 100000 in
theorem runes_any (R Q : Nat → Prop) (xs ys : List Int) (v u : Value) (w : World) (hv : IntsIn R .i32 w v xs) (hu : IntsIn Q .i32 w u ys) (hx : xs.length ≤ maxLen) (hy : ys.length ≤ maxLen) :
    Calls Try.prog 25 #[v, u] w fun e w' => e = .returned (.bool (decide (xs = ys))) ∧ Below w.heap.size w w' := by
  have HV := Lib.hid hv
  have HU := Lib.hid hu
  obtain ⟨p, cp, rfl, _⟩ := hv
  obtain ⟨q, cq, rfl, _⟩ := hu
  unfold maxLen at hx hy
  by_cases hlen : xs.length = ys.length
  · have hne : ((xs.length : Int) != (ys.length : Int)) = false := by rw [hlen]; simp
    have hne' : (xs.length != ys.length) = false := by rw [hlen]; simp
    have HLN := Lib.hid hlen
    clear hlen
    go_enter Try.func25, Try.ntmps25
    go_wp2
    go_loopw [13] (fun i wr => ∃ k : Nat, i = .int .i64 k ∧ (k ≤ xs.length ∧ xs.take k = ys.take k) ∧ Below w.heap.size w wr) (fun i _ => xs.length - (intOf i).toNat)
    case atStart => exact ⟨0, rfl, ⟨Nat.zero_le _, by simp⟩, Below.refl _ _⟩
    case round =>
      obtain ⟨k, rfl, hr, hbr⟩ := hrel
      have HR := Lib.hid hr
      have HB := Lib.hid hbr
      by_cases hlt : k < xs.length
      · have hlt' : decide (k < xs.length) = true := decide_eq_true hlt
        obtain ⟨b, o, rfl, _, hb, hc⟩ := (HV.out.kept (Kept.below hbr)).at k hlt
        obtain ⟨b2, o2, rfl, _, hb2, hc2⟩ := (HU.out.kept (Kept.below hbr)).at k (by have := HLN.out; omega)
        have hlty : k < ys.length := (by have := HLN.out; omega)
        have HT := Lib.hid (take_eq_step HLN.out hlt hr.2)
        have HL := Lib.hid hlt
        generalize xs.getD k 0 = x at hc HT
        generalize ys.getD k 0 = y at hc2 HT
        clear hr hbr
        by_cases hxy : x = y
        · have hxy' : (x != y) = false := by rw [hxy]; simp
          have HN := Lib.hid (HT.out.2 hxy)
          clear hxy
          go_wp2
          go_quiet (fail)
          go_wp2
          go_roundw
          case rel => exact ⟨k + 1, by go_num, ⟨HL.out, HN.out⟩, HB.out.trans (below_drewN (Below.refl _ _) _)⟩
          case measure => (have hq := HL.out; simp [intOf]; omega)
        · have hxy' : (x != y) = true := by simpa using hxy
          have HN : Hid (decide (xs = ys) = false) := by
            show _ = _
            rw [decide_eq_false_iff_not]; intro e; exact hxy (HT.out.1 (by rw [e]))
          clear hxy
          go_wp2
          go_quiet (fail)
          go_wp2
          go_ret
          exact ⟨by rw [HN.out]; rfl, HB.out.trans (below_drewN (Below.refl _ _) _)⟩
      · have hlt' : decide (k < xs.length) = false := decide_eq_false hlt
        have HN : Hid (decide (xs = ys) = true) := by
          show _ = _
          rw [decide_eq_true_eq]
          have := hr.2
          rwa [List.take_of_length_le (by omega), List.take_of_length_le (by have := HLN.out; omega)] at this
        clear hlt hr hbr
        go_wp2
        go_ret
        exact ⟨by rw [HN.out]; rfl, HB.out⟩
  · have hne : ((xs.length : Int) != (ys.length : Int)) = true := by simpa using (show ¬ (xs.length : Int) = (ys.length : Int) by omega)
    have hne' : (xs.length != ys.length) = true := by simpa using hlen
    have HN : Hid (decide (xs = ys) = false) := by
      show _ = _
      rw [decide_eq_false_iff_not]; intro e; exact hlen (by rw [e])
    clear hlen
    go_enter Try.func25, Try.ntmps25
    go_wp2
    go_ret
    exact ⟨by rw [HN.out]; rfl, Below.refl _ _⟩

/-- the beginning of a slice -/
theorem IntsIn.cut {R : Nat → Prop} {k : IntKind} {w : World} {p : Option Addr} {len cap : Nat} {xs : List Int} (h : IntsIn R k w (.slice p len cap) xs) (m c : Nat) (hm : m ≤ xs.length) (hc : m ≤ c ∧ c ≤ maxLen) : IntsIn R k w (.slice p m c) (xs.take m) := by
  obtain ⟨p', cap', h1, _, h2⟩ := h
  cases h1
  refine ⟨p, c, by rw [List.length_take, Nat.min_eq_left hm], ⟨by rw [List.length_take, Nat.min_eq_left hm]; exact hc.1, hc.2⟩, fun i x hx => ?_⟩
  have hi : i < m := by have := (List.getElem?_eq_some_iff.1 hx).1; rw [List.length_take] at this; omega
  rw [List.getElem?_take_of_lt hi] at hx
  exact h2 i x hx
set_option maxHeartbeats 2000000 in
set_option maxRecDepth 100000 in
theorem rbegins_any (R Q : Nat → Prop) (xs ys : List Int) (v u : Value) (w : World) (hv : IntsIn R .i32 w v xs) (hu : IntsIn Q .i32 w u ys) (hx : xs.length ≤ 140737488351232) (hy : ys.length ≤ 140737488351232) :
    Calls Try.prog 36 #[v, u] w fun e w' => e = .returned (.bool (decide (ys <+: xs))) ∧ Below w.heap.size w w' := by
  have HV := Lib.hid hv
  have HU := Lib.hid hu
  obtain ⟨p, cp, rfl, _⟩ := hv
  obtain ⟨q, cq, rfl, _⟩ := hu
  by_cases hlen : ys.length ≤ xs.length
  · have hl1 : decide ((ys.length : Int) ≤ (xs.length : Int)) = true := decide_eq_true (by omega)
    have hl2 : decide (ys.length ≤ xs.length) = true := decide_eq_true hlen
    have HP : Hid (decide (ys <+: xs) = decide (xs.take ys.length = ys)) := by
      show _ = _
      rw [Bool.eq_iff_iff, decide_eq_true_eq, decide_eq_true_eq, List.prefix_iff_eq_take]
      exact ⟨fun h => h.symm, fun h => h.symm⟩
    have HL := Lib.hid hlen
    have hcap := HV.out.cap
    have hcp : ys.length ≤ cp := (by omega)
    have hcq : decide (ys.length ≤ cp) = true := decide_eq_true hcp
    have HCP : Hid (ys.length ≤ cp ∧ cp ≤ maxLen) := ⟨hcp, hcap.2⟩
    clear hlen hcap
    go_enter Try.func36, Try.ntmps36
    go_wp2_with fail
    refine (runes_any R Q (xs.take ys.length) ys _ _ _ (HV.out.cut _ _ HL.out HCP.out) HU.out (by rw [List.length_take]; unfold maxLen; omega) (by unfold maxLen; omega)).mono ?_
    rw [← HP.out]
    rintro e w1 ⟨rfl, hb⟩
    go_wp2_with fail
    go_ret
    exact ⟨rfl, hb⟩
  · have hl1 : decide ((ys.length : Int) ≤ (xs.length : Int)) = false := decide_eq_false (by omega)
    have hl2 : decide (ys.length ≤ xs.length) = false := decide_eq_false hlen
    have HP : Hid (decide (ys <+: xs) = false) := by
      show _ = _
      rw [decide_eq_false_iff_not]; intro h; exact hlen h.length_le
    clear hlen
    go_enter Try.func36, Try.ntmps36
    go_wp2
    go_ret
    exact ⟨by rw [HP.out]; rfl, Below.refl _ _⟩
end Go.Proofs.Ytcifoallahmjbaa
