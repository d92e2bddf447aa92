/- Package tailor: Same: walked. -/
import Derived.Test.YtchjjfjjcdjjcaaGreatDoorEq
import Derived.Test.YtchjjfjjcdjjcaaGreatDoorHi
namespace Go.Proofs.YtchjjfjjcdjjcaaGreatDoor
open Go.RowKit

set_option maxHeartbeats 2000000 in
set_option maxRecDepth 100000 in
theorem samec_any (R Q : Nat → Prop) (k1 k2 : Int) (t1 x1 t2 x2 : List Int) (tv1 xv1 tv2 xv2 : Value) (w : World) (ht1 : IntsIn R .i32 w tv1 t1) (hx1 : IntsIn R .i32 w xv1 x1) (ht2 : IntsIn Q .i32 w tv2 t2) (hx2 : IntsIn Q .i32 w xv2 x2) :
    Calls Tryz.prog 14 #[.agg #[.int .i64 k1, tv1, xv1], .agg #[.int .i64 k2, tv2, xv2]] w fun e w' => e = .returned (.bool (decide ((k1, t1, x1) = (k2, t2, x2)))) ∧ Below w.heap.size w w' := by
  have hln : ∀ {R : Nat → Prop} {W v} {l : List Int}, IntsIn R .i32 W v l → l.length ≤ 9223372036854775807 := fun h => by obtain ⟨_, _, _, h1, _⟩ := h; unfold maxLen at h1; omega
  have HT := Lib.hid (fun W (hb : Below w.heap.size w W) => equalR_any R Q t1 t2 tv1 tv2 W (ht1.kept (Kept.below hb)) (ht2.kept (Kept.below hb)) (hln ht1) (hln ht2))
  have HX := Lib.hid (fun W (hb : Below w.heap.size w W) => equalR_any R Q x1 x2 xv1 xv2 W (hx1.kept (Kept.below hb)) (hx2.kept (Kept.below hb)) (hln hx1) (hln hx2))
  obtain ⟨p1, c1, rfl, _⟩ := ht1
  obtain ⟨p2, c2, rfl, _⟩ := hx1
  obtain ⟨p3, c3, rfl, _⟩ := ht2
  obtain ⟨p4, c4, rfl, _⟩ := hx2
  have hsp : decide ((k1, t1, x1) = (k2, t2, x2)) = (decide (k1 = k2) && decide (t1 = t2) && decide (x1 = x2)) := by
    rw [Bool.eq_iff_iff]; simp [and_assoc]
  rw [hsp]
  clear hsp hln
  generalize decide (t1 = t2) = tb at *
  generalize decide (x1 = x2) = xb at *
  generalize t1.length = l1 at *
  generalize t2.length = l2 at *
  generalize x1.length = l3 at *
  generalize x2.length = l4 at *
  have HB0 : Hid (Below w.heap.size w ((w.alloc (.cells #[.int .i64 k1, .slice p1 l1 c1, .slice p2 l3 c2] 47)).alloc (.cells #[.int .i64 k2, .slice p3 l2 c3, .slice p4 l4 c4] 47))) := ((Below.refl _ w).alloc (Nat.le_refl _) _).alloc (by simp) _
  have HT0 := Lib.hid (HT.out _ HB0.out)
  by_cases hk : k1 = k2
  · have e1 : (k1 == k2) = true := beq_iff_eq.2 hk
    have e2 : decide (k1 = k2) = true := decide_eq_true hk
    rw [e2]
    clear hk e2
    cases tb
    · go_enter Tryz.func14, Tryz.ntmps14
      go_wp2_with fail
      refine HT0.out.mono ?_
      rintro e w1 ⟨rfl, hb1⟩
      have HB1 := Lib.hid (HB0.out.trans (hb1.mono HB0.out.size))
      clear hb1
      go_wp2_with fail
      go_ret
      exact ⟨by simp, HB1.out⟩
    · obtain ⟨W0, hW0⟩ : ∃ W0, W0 = ((w.alloc (.cells #[.int .i64 k1, .slice p1 l1 c1, .slice p2 l3 c2] 47)).alloc (.cells #[.int .i64 k2, .slice p3 l2 c3, .slice p4 l4 c4] 47)) := ⟨_, rfl⟩
      have hz0 : W0.heap.size = w.heap.size + 2 := by rw [hW0]; simp
      have q0 : W0.cell? ⟨w.heap.size, 2, none⟩ = some (.slice p2 l3 c2) := by rw [hW0]; simp [go_sem]
      have q1 : W0.cell? ⟨w.heap.size + 1, 2, none⟩ = some (.slice p4 l4 c4) := by rw [hW0]; simp [go_sem]
      have HQ : Hid (∀ W, Below W0.heap.size W0 W → W.cell? ⟨w.heap.size, 2, none⟩ = some (.slice p2 l3 c2) ∧ W.cell? ⟨w.heap.size + 1, 2, none⟩ = some (.slice p4 l4 c4) ∧ w.heap.size + 1 < W.heap.size) := fun W h =>
        ⟨(h.cell (p := ⟨w.heap.size, 2, none⟩) (by simp; omega)).trans q0, (h.cell (p := ⟨w.heap.size + 1, 2, none⟩) (by simp; omega)).trans q1, by have := h.size; omega⟩
      have HW0 := Lib.hid hW0
      rw [← hW0] at HB0 HT0
      clear hz0 q0 q1 hW0
      go_enter Tryz.func14, Tryz.ntmps14
      go_wp2_with fail
      rw [← HW0.out]
      refine HT0.out.mono ?_
      rintro e w1 ⟨rfl, hb1⟩
      have HB1 := Lib.hid (HB0.out.trans (hb1.mono HB0.out.size))
      obtain ⟨q0, q1, q2⟩ := HQ.out _ hb1
      have q3 : w.heap.size < w1.heap.size := by omega
      clear hb1
      cases xb
      · go_wp2_with fail
        refine (HX.out _ HB1.out).mono ?_
        rintro e w2 ⟨rfl, hb2⟩
        have HB2 := Lib.hid (HB1.out.trans (hb2.mono HB1.out.size))
        clear hb2
        go_wp2_with fail
        go_ret
        exact ⟨rfl, HB2.out⟩
      · go_wp2_with fail
        refine (HX.out _ HB1.out).mono ?_
        rintro e w2 ⟨rfl, hb2⟩
        have HB2 := Lib.hid (HB1.out.trans (hb2.mono HB1.out.size))
        clear hb2
        go_wp2_with fail
        go_ret
        exact ⟨rfl, HB2.out⟩
  · have e1 : (k1 == k2) = false := beq_eq_false_iff_ne.2 hk
    have e2 : decide (k1 = k2) = false := decide_eq_false hk
    rw [e2]
    clear hk e2
    go_enter Tryz.func14, Tryz.ntmps14
    go_wp2_with fail
    go_ret
    exact ⟨by simp, HB0.out⟩
set_option maxHeartbeats 2000000 in
set_option maxRecDepth 100000 in
theorem tequalf_any (R Q : Nat → Prop) (xs ys : List Rul) (v u : Value) (w : World) (hv : RulsIn R w v xs) (hu : RulsIn Q w u ys) (hx : xs.length ≤ 140737488351232) (hy : ys.length ≤ 140737488351232) :
    Calls Tryz.prog 13 #[v, u, .func (.func 14) #[] #[]] w fun e w' => e = .returned (.bool (decide (xs = ys))) ∧ Below w.heap.size w w' := by
  have HV := Lib.hid hv
  have HU := Lib.hid hu
  obtain ⟨p, cp, rfl, _⟩ := hv
  obtain ⟨q, cq, rfl, _⟩ := hu
  obtain ⟨n, hn⟩ : ∃ n, n = xs.length := ⟨_, rfl⟩
  obtain ⟨m, hm⟩ : ∃ m, m = ys.length := ⟨_, rfl⟩
  rw [← hn] at HV hx ⊢
  rw [← hm] at HU hy ⊢
  have HNM := Lib.hid (And.intro hn hm)
  clear hn hm
  by_cases hlen : n = m
  · subst hlen
    go_enter Tryz.func13, Tryz.ntmps13
    go_wp2_with fail
    go_loopw [17] (fun i wr => ∃ k : Nat, i = .int .i64 k ∧ (k ≤ n ∧ xs.take k = ys.take k) ∧ Below w.heap.size w wr) (fun i _ => n - (intOf i).toNat)
    case atStart => exact ⟨0, rfl, ⟨Nat.zero_le _, by simp⟩, Below.refl _ _⟩
    case round =>
      obtain ⟨k, rfl, hr, hbr⟩ := hrel
      have HR := Lib.hid hr
      have HB := Lib.hid hbr
      by_cases hlt : k < n
      · have g1 : (k : Int) < (n : Int) := by omega
        obtain ⟨x, hxk⟩ : ∃ x, xs[k]? = some x := ⟨xs[k]'(by rw [← HNM.out.1]; exact hlt), List.getElem?_eq_getElem _⟩
        obtain ⟨y, hyk⟩ : ∃ y, ys[k]? = some y := ⟨ys[k]'(by rw [← HNM.out.2]; exact hlt), List.getElem?_eq_getElem _⟩
        obtain ⟨b, o, t1, x1, rfl, _, hb, c0, c1, c2, it1, ix1⟩ := (HV.out.kept (Kept.below hbr)).at k x hxk
        obtain ⟨b2, o2, t2, x2, rfl, _, hbl2, d0, d1, d2, it2, ix2⟩ := (HU.out.kept (Kept.below hbr)).at k y hyk
        have HT := Lib.hid (takeR_eq_step hxk hyk hr.2)
        have HNE : Hid (x ≠ y → decide (xs = ys) = false) := fun hne => by
          rw [decide_eq_false_iff_not]; intro e; exact hne (HT.out.1 (by rw [e]))
        obtain ⟨xk, xt, xx⟩ := x
        obtain ⟨yk, yt, yx⟩ := y
        have HC := Lib.hid (fun W (h : Below wr.heap.size wr W) => samec_any R Q xk yk xt xx yt yx t1 x1 t2 x2 W (it1.kept (Kept.below h)) (ix1.kept (Kept.below h)) (it2.kept (Kept.below h)) (ix2.kept (Kept.below h)))
        simp only at c0 d0
        have hsl : ∀ {R : Nat → Prop} {W v} {l : List Int}, IntsIn R .i32 W v l → ∃ p a c, v = .slice p a c := fun h => ⟨_, _, _, h.choose_spec.choose_spec.1⟩
        obtain ⟨tp1, ta1, tc1, rfl⟩ := hsl it1
        obtain ⟨tp2, ta2, tc2, rfl⟩ := hsl it2
        obtain ⟨xp1, xa1, xc1, rfl⟩ := hsl ix1
        obtain ⟨xp2, xa2, xc2, rfl⟩ := hsl ix2
        have HB0 : Hid (Below wr.heap.size wr ((wr.alloc (.cells #[.int .i64 xk, .slice tp1 ta1 tc1, .slice xp1 xa1 xc1] 47)).alloc (.cells #[.int .i64 yk, .slice tp2 ta2 tc2, .slice xp2 xa2 xc2] 47))) := ((Below.refl _ wr).alloc (Nat.le_refl _) _).alloc (by simp) _
        have HC0 := Lib.hid (HC.out _ HB0.out)
        clear hr hbr hxk hyk it1 it2 ix1 ix2 hsl HC
        by_cases hxy : (xk, xt, xx) = (yk, yt, yx)
        · have hd : decide ((xk, xt, xx) = (yk, yt, yx)) = true := decide_eq_true hxy
          rw [hd] at HC0
          have HN := Lib.hid (HT.out.2 hxy)
          clear hxy hd
          go_wp2_with fail
          refine HC0.out.mono ?_
          rintro e w2 ⟨rfl, hb2⟩
          have HB2 : Hid (Below w.heap.size w w2) := HB.out.trans ((HB0.out.trans (hb2.mono HB0.out.size)).mono HB.out.size)
          clear hb2
          go_wp2_with fail
          go_roundw
          case rel => exact ⟨k + 1, by go_num, ⟨by omega, HN.out⟩, HB2.out⟩
          case measure => (show n - ((k : Int) + 1).toNat < n - (k : Int).toNat; omega)
        · have hd : decide ((xk, xt, xx) = (yk, yt, yx)) = false := decide_eq_false hxy
          rw [hd] at HC0
          have HN := Lib.hid (HNE.out hxy)
          clear hxy hd
          go_wp2_with fail
          refine HC0.out.mono ?_
          rintro e w2 ⟨rfl, hb2⟩
          have HB2 : Hid (Below w.heap.size w w2) := HB.out.trans ((HB0.out.trans (hb2.mono HB0.out.size)).mono HB.out.size)
          clear hb2
          go_wp2_with fail
          go_ret
          exact ⟨by rw [HN.out]; rfl, HB2.out⟩
      · have g1 : ¬ (k : Int) < (n : Int) := by omega
        obtain rfl : k = n := by have := hr.1; omega
        have HN : Hid (decide (xs = ys) = true) := by
          show _ = _
          rw [decide_eq_true_eq]
          have := hr.2
          rwa [List.take_of_length_le (by rw [← HNM.out.1]; exact Nat.le_refl _), List.take_of_length_le (by rw [← HNM.out.2]; exact Nat.le_refl _)] at this
        clear hlt hr hbr
        go_wp2_with fail
        go_ret
        exact ⟨by rw [HN.out]; rfl, HB.out⟩
  · have e1 : ((n : Int) == (m : Int)) = false := by simp; omega
    have e1' : ((n : Int) != (m : Int)) = true := by simp; omega
    have g1 : ¬ ((n : Int) = (m : Int)) := by omega
    have HN : Hid (decide (xs = ys) = false) := by
      show _ = _
      rw [decide_eq_false_iff_not]; intro e; exact hlen (by rw [HNM.out.1, HNM.out.2, e])
    clear hlen
    go_enter Tryz.func13, Tryz.ntmps13
    go_wp2_with fail
    go_ret
    exact ⟨by rw [HN.out]; rfl, Below.refl _ _⟩
set_option maxHeartbeats 2000000 in
set_option maxRecDepth 100000 in
theorem tsame_any (R Q : Nat → Prop) (xs ys : List Rul) (v u : Value) (w : World) (hv : RulsIn R w v xs) (hu : RulsIn Q w u ys) (hx : xs.length ≤ 140737488351232) (hy : ys.length ≤ 140737488351232) :
    Calls Tryz.prog 6 #[v, u] w fun e w' => e = .returned (.bool (decide (xs = ys))) ∧ Below w.heap.size w w' := by
  have HC := Lib.hid (tequalf_any R Q xs ys v u w hv hu hx hy)
  obtain ⟨p, cp, rfl, _⟩ := hv
  obtain ⟨q, cq, rfl, _⟩ := hu
  generalize decide (xs = ys) = b at *
  generalize xs.length = n at *
  generalize ys.length = m at *
  go_enter Tryz.func6, Tryz.ntmps6
  go_wp2_with fail
  refine HC.out.mono ?_
  rintro e w1 ⟨rfl, hb1⟩
  go_wp2_with fail
  go_ret
  exact ⟨rfl, hb1⟩
end Go.Proofs.YtchjjfjjcdjjcaaGreatDoor
