/- slices.Equal at []rune: walked. -/
import Derived.Test.YtjbcbejedaeedaaGreatDoorBase
import Derived.Deep.RegionHeld
namespace Go.Proofs.YtjbcbejedaeedaaGreatDoor
open Go.RowKit

set_option maxHeartbeats 4000000 in
set_option maxRecDepth 1000000 in
theorem equalR_any (R Q : Nat → Prop) (xs ys : List Int) (v u : Value) (w : World) (hv : IntsIn R .i32 w v xs) (hu : IntsIn Q .i32 w u ys) (hx : xs.length ≤ 9223372036854775807) (hy : ys.length ≤ 9223372036854775807) :
    Calls Tryz.prog 31 #[v, u] w fun e w' => e = .returned (.bool (decide (xs = ys))) ∧ Below w.heap.size w w' := by
  have HV := Lib.hid hv
  have HU := Lib.hid hu
  obtain ⟨p, cp, rfl, hcp, _⟩ := hv
  obtain ⟨q, cq, rfl, hcq, _⟩ := hu
  obtain ⟨n, hn⟩ : ∃ n, n = xs.length := ⟨_, rfl⟩
  obtain ⟨m, hm⟩ : ∃ m, m = ys.length := ⟨_, rfl⟩
  rw [← hn] at HV hcp hx ⊢
  rw [← hm] at HU hcq hy ⊢
  have HNM := Lib.hid (And.intro hn hm)
  clear hn hm
  by_cases hnm : n = m
  · subst hnm
    go_enter Tryz.func31, Tryz.ntmps31
    go_wp2_with fail
    go_loopw [5, 13] (fun _ iv wr => ∃ i : Nat, iv = .int .i64 i ∧ i ≤ n ∧ xs.take i = ys.take i ∧ Below w.heap.size w wr) (fun _ iv _ => n - (intOf iv).toNat)
    case atStart => exact ⟨0, rfl, Nat.zero_le _, rfl, Below.refl _ _⟩
    case round =>
      obtain ⟨i, rfl, hin, hsm, hb⟩ := hrel
      have HSM := Lib.hid hsm
      have HB := Lib.hid hb
      by_cases hlt : i < n
      · have g1 : (i : Int) < (n : Int) := by omega
        obtain ⟨x, hx1⟩ : ∃ x, xs[i]? = some x := ⟨xs[i]'(by rw [← HNM.out.1]; exact hlt), List.getElem?_eq_getElem _⟩
        obtain ⟨y, hy1⟩ : ∃ y, ys[i]? = some y := ⟨ys[i]'(by rw [← HNM.out.2]; exact hlt), List.getElem?_eq_getElem _⟩
        obtain ⟨p', cap', he, _, hc⟩ := HV.out.kept (Kept.below hb)
        injection he with he1 _ _
        obtain ⟨b, o, hp, _, hbl, c0⟩ := hc i x hx1
        subst he1 hp
        obtain ⟨p', cap', he, _, hc2⟩ := HU.out.kept (Kept.below hb)
        injection he with he1 _ _
        obtain ⟨b2, o2, hp, _, hbl2, c02⟩ := hc2 i y hy1
        subst he1 hp
        have HXY := Lib.hid (And.intro hx1 hy1)
        clear hc hc2 hx1 hy1 hsm hb
        by_cases hxy : x = y
        · have g2 : (x == y) = true := by simpa using hxy
          subst hxy
          go_wp2_with fail
          refine wp_region_over (by kernel_rfl) (by kernel_rfl) ?_; (repeat (go_big_quiet_step ((fail)))); refine wpQuiet_nil ?_; intro w1 hb1
          have HB1 := Lib.hid hb1
          clear hb1 c0 c02
          go_wp2_with fail
          go_roundw
          case rel => exact ⟨i + 1, by go_num, by omega, by rw [take_snocR HXY.out.1, take_snocR HXY.out.2, HSM.out], HB.out.trans (HB1.out.mono HB.out.size)⟩
          case measure => (show n - ((i : Int) + 1).toNat < n - (i : Int).toNat; omega)
        · have g2 : (x == y) = false := by simpa using hxy
          have HE : Hid (decide (xs = ys) = false) := by
            show _ = _
            refine decide_eq_false (fun e => hxy ?_)
            have h1 := HXY.out.1
            rw [e, HXY.out.2] at h1; cases h1; rfl
          go_wp2_with fail
          refine wp_region_over (by kernel_rfl) (by kernel_rfl) ?_; (repeat (go_big_quiet_step ((fail)))); refine wpQuiet_nil ?_; intro w1 hb1
          have HB1 := Lib.hid hb1
          clear hb1 c0 c02
          go_wp2_with fail
          go_ret
          exact ⟨by rw [HE.out]; rfl, HB.out.trans (HB1.out.mono HB.out.size)⟩
      · have g1 : ¬ ((i : Int) < (n : Int)) := by omega
        obtain rfl : i = n := by omega
        have HE : Hid (decide (xs = ys) = true) := by
          show _ = _
          refine decide_eq_true ?_
          rwa [List.take_of_length_le (by rw [← HNM.out.1]; exact Nat.le_refl _), List.take_of_length_le (by rw [← HNM.out.2]; exact Nat.le_refl _)] at hsm
        clear hsm hb
        go_wp2_with fail
        go_ret
        exact ⟨by rw [HE.out]; rfl, HB.out⟩
  · have g1 : ¬ ((n : Int) = (m : Int)) := by omega
    have HE : Hid (decide (xs = ys) = false) := decide_eq_false (fun e => hnm (by have := HNM.out; rw [this.1, this.2, e]))
    go_enter Tryz.func31, Tryz.ntmps31
    go_wp2_with fail
    go_ret
    exact ⟨by rw [HE.out]; rfl, Below.refl _ _⟩
end Go.Proofs.YtjbcbejedaeedaaGreatDoor
