/- The reference: rules alike. -/
import Derived.Test.YtchjjfjjcdjjcaaDoorHi
import Derived.Test.YtchjjfjjcdjjcaaDoorVj
namespace Go.Proofs.YtchjjfjjcdjjcaaDoor
open Go.RowKit
open PlainAid (bt)

theorem takeR_eq_step {xs ys : List Rul} {k : Nat} {x y : Rul} (hx : xs[k]? = some x) (hy : ys[k]? = some y) (h : xs.take k = ys.take k) : (xs.take (k + 1) = ys.take (k + 1) ↔ x = y) := by
  have e1 : xs.take (k + 1) = xs.take k ++ [x] := by rw [List.take_add_one, hx]; rfl
  have e2 : ys.take (k + 1) = ys.take k ++ [y] := by rw [List.take_add_one, hy]; rfl
  rw [e1, e2, h]
  constructor
  · intro e; have := List.append_cancel_left e; simpa using this
  · intro e; rw [e]
theorem RulsIn.at {R : Nat → Prop} {w : World} {p : Option Addr} {len cap : Nat} {rs : List Rul} (h : RulsIn R w (.slice p len cap) rs) (i : Nat) (r : Rul) (hi : rs[i]? = some r) :
    ∃ b o t x, p = some ⟨b, o, none⟩ ∧ R b ∧ b < w.heap.size ∧ w.cell? ⟨b, o + i * 3, none⟩ = some (.int .i64 r.1) ∧ w.cell? ⟨b, o + i * 3 + 1, none⟩ = some t ∧ w.cell? ⟨b, o + i * 3 + 2, none⟩ = some x ∧ IntsIn R .i32 w t r.2.1 ∧ IntsIn R .i32 w x r.2.2 := by
  obtain ⟨p', cap', h1, h2⟩ := h
  cases h1
  exact h2 i r hi
set_option maxHeartbeats 4000000 in
set_option maxRecDepth 100000 in
theorem rsame10_any (R Q : Nat → Prop) (xs ys : List Rul) (v u : Value) (w : World) (hv : RulsIn R w v xs) (hu : RulsIn Q w u ys) (hx : xs.length ≤ 1000000000) (hy : ys.length ≤ 1000000000) :
    Calls Tryd.prog 8 #[v, u] w fun e w' => e = .returned (.bool (decide (xs = ys))) ∧ Below w.heap.size w w' := by
  have HV := Lib.hid hv
  have HU := Lib.hid hu
  obtain ⟨p, cp, rfl, _⟩ := hv
  obtain ⟨q, cq, rfl, _⟩ := hu
  obtain ⟨n, hn⟩ : ∃ n, n = xs.length := ⟨_, rfl⟩
  obtain ⟨m, hm⟩ : ∃ m, m = ys.length := ⟨_, rfl⟩
  rw [← hn] at HV hx ⊢
  rw [← hm] at HU hy ⊢
  have HNM := Lib.hid (And.intro hn hm)
  clear hn hm
  by_cases hlen : n = m
  · subst hlen
    go_enter Tryd.func8, Tryd.ntmps8
    go_wp2_with fail
    go_loopw [5] (fun i wr => ∃ k : Nat, i = .int .i64 k ∧ (k ≤ n ∧ xs.take k = ys.take k) ∧ Below w.heap.size w wr) (fun i _ => n - (intOf i).toNat)
    case atStart => exact ⟨0, rfl, ⟨Nat.zero_le _, by simp⟩, Below.refl _ _⟩
    case round =>
      obtain ⟨k, rfl, hr, hbr⟩ := hrel
      have HR := Lib.hid hr
      have HB := Lib.hid hbr
      by_cases hlt : k < n
      · have g1 : (k : Int) < (n : Int) := by omega
        obtain ⟨x, hxk⟩ : ∃ x, xs[k]? = some x := ⟨xs[k]'(by rw [← HNM.out.1]; exact hlt), List.getElem?_eq_getElem _⟩
        obtain ⟨y, hyk⟩ : ∃ y, ys[k]? = some y := ⟨ys[k]'(by rw [← HNM.out.2]; exact hlt), List.getElem?_eq_getElem _⟩
        obtain ⟨b, o, t1, x1, rfl, _, hb, c0, c1, c2, it1, ix1⟩ := (HV.out.kept (Kept.below hbr)).at k x hxk
        obtain ⟨b2, o2, t2, x2, rfl, _, hbl2, d0, d1, d2, it2, ix2⟩ := (HU.out.kept (Kept.below hbr)).at k y hyk
        have HT := Lib.hid (takeR_eq_step hxk hyk hr.2)
        have HNE : Hid (x ≠ y → decide (xs = ys) = false) := fun hne => by
          rw [decide_eq_false_iff_not]; intro e; exact hne (HT.out.1 (by rw [e]))
        have HS1 := Lib.hid (fun u' => r4same_any _ _ _ _ t1 t2 (over wr u') (it1.kept (Kept.below (below_over wr u'))) (it2.kept (Kept.below (below_over wr u'))))
        have HS2 := Lib.hid (fun u' => r4same_any _ _ _ _ x1 x2 (over wr u') (ix1.kept (Kept.below (below_over wr u'))) (ix2.kept (Kept.below (below_over wr u'))))
        obtain ⟨xk, xt, xx⟩ := x
        obtain ⟨yk, yt, yx⟩ := y
        simp only at c0 d0 HS1 HS2
        have hsl : ∀ {R : Nat → Prop} {W v} {l : List Int}, IntsIn R .i32 W v l → ∃ p a c, v = .slice p a c := fun h => ⟨_, _, _, h.choose_spec.choose_spec.1⟩
        obtain ⟨tp1, ta1, tc1, rfl⟩ := hsl it1
        obtain ⟨tp2, ta2, tc2, rfl⟩ := hsl it2
        obtain ⟨xp1, xa1, xc1, rfl⟩ := hsl ix1
        obtain ⟨xp2, xa2, xc2, rfl⟩ := hsl ix2
        clear hr hbr hxk hyk it1 it2 ix1 ix2 hsl
        by_cases hk : xk = yk
        · have e1 : (xk == yk) = true := by simpa using hk
          have e1' : (xk != yk) = false := by simpa using hk
          by_cases ht : xt = yt
          · have HTE : Hid (decide (xt = yt) = true) := decide_eq_true ht
            rw [HTE.out] at HS1
            by_cases hxx : xx = yx
            · have HXE : Hid (decide (xx = yx) = true) := decide_eq_true hxx
              rw [HXE.out] at HS2
              have HN := Lib.hid (HT.out.2 (by rw [hk, ht, hxx]))
              clear hk ht hxx
              go_wp2_with fail
              refine wp_region_over (by kernel_rfl) (by kernel_rfl) ?_
              iterate 23 (go_big_quiet_step ((go_at_call 24; exact over_of (HS1.out _))))
              (repeat (go_big_quiet_step ((go_at_call 24; exact over_of (HS2.out _)))))
              refine wpQuiet_nil ?_
              intro w2 hb2'
              have HB2 := Lib.hid (HB.out.trans (hb2'.mono HB.out.size))
              clear hb2' c0 c1 c2 d0 d1 d2
              go_wp2_with fail
              go_roundw
              case rel => exact ⟨k + 1, by go_num, ⟨by omega, HN.out⟩, HB2.out⟩
              case measure => (show n - ((k : Int) + 1).toNat < n - (k : Int).toNat; omega)
            · have HXE : Hid (decide (xx = yx) = false) := decide_eq_false hxx
              rw [HXE.out] at HS2
              have HN := Lib.hid (HNE.out (fun e => hxx (by cases e; rfl)))
              clear hk ht hxx
              go_wp2_with fail
              refine wp_region_over (by kernel_rfl) (by kernel_rfl) ?_
              iterate 23 (go_big_quiet_step ((go_at_call 24; exact over_of (HS1.out _))))
              (repeat (go_big_quiet_step ((go_at_call 24; exact over_of (HS2.out _)))))
              refine wpQuiet_nil ?_
              intro w2 hb2'
              have HB2 := Lib.hid (HB.out.trans (hb2'.mono HB.out.size))
              clear hb2' c0 c1 c2 d0 d1 d2
              go_wp2_with fail
              go_ret
              exact ⟨by rw [HN.out]; rfl, HB2.out⟩
          · have HTE : Hid (decide (xt = yt) = false) := decide_eq_false ht
            rw [HTE.out] at HS1
            have HN := Lib.hid (HNE.out (fun e => ht (by cases e; rfl)))
            clear hk ht
            go_wp2_with fail
            refine wp_region_over (by kernel_rfl) (by kernel_rfl) ?_; (repeat (go_big_quiet_step (((go_at_call 24; exact over_of (HS1.out _)))))); refine wpQuiet_nil ?_; intro w2 hb2
            have HB2 := Lib.hid (HB.out.trans (hb2.mono HB.out.size))
            clear c0 c1 c2 d0 d1 d2
            go_wp2_with fail
            go_ret
            exact ⟨by rw [HN.out]; rfl, HB2.out⟩
        · have e1 : (xk == yk) = false := by simpa using hk
          have e1' : (xk != yk) = true := by simpa using hk
          have HN := Lib.hid (HNE.out (fun e => hk (by cases e; rfl)))
          clear hk
          go_wp2_with fail
          refine wp_region_over (by kernel_rfl) (by kernel_rfl) ?_; (repeat (go_big_quiet_step ((fail)))); refine wpQuiet_nil ?_; intro w2 hb2
          have HB2 := Lib.hid (HB.out.trans (hb2.mono HB.out.size))
          clear c0 c1 c2 d0 d1 d2
          go_wp2_with fail
          go_ret
          exact ⟨by rw [HN.out]; rfl, HB2.out⟩
      · have g1 : ¬ (k : Int) < (n : Int) := by omega
        obtain rfl : k = n := by have := hr.1; omega
        have HN : Hid (decide (xs = ys) = true) := by
          show _ = _
          rw [decide_eq_true_eq]
          have := hr.2
          rwa [List.take_of_length_le (by rw [← HNM.out.1]; exact Nat.le_refl _), List.take_of_length_le (by rw [← HNM.out.2]; exact Nat.le_refl _)] at this
        clear hlt hr hbr
        go_wp2_with fail
        go_ret
        exact ⟨by rw [HN.out]; rfl, HB.out⟩
  · have e1 : ((n : Int) == (m : Int)) = false := by simp; omega
    have e1' : ((n : Int) != (m : Int)) = true := by simp; omega
    have g1 : ¬ ((n : Int) = (m : Int)) := by omega
    have HN : Hid (decide (xs = ys) = false) := by
      show _ = _
      rw [decide_eq_false_iff_not]; intro e; exact hlen (by rw [HNM.out.1, HNM.out.2, e])
    clear hlen
    go_enter Tryd.func8, Tryd.ntmps8
    go_wp2_with fail
    go_ret
    exact ⟨by rw [HN.out]; rfl, Below.refl _ _⟩
end Go.Proofs.YtchjjfjjcdjjcaaDoor
