/- The reference: which code points are ahead, entries alike. -/
import Derived.Test.YtcifoallahmjbaaKe
import Derived.Test.YtcifoallahmjbaaTt
namespace Go.Proofs.Ytcifoallahmjbaa
open Go.RowKit

theorem split_at {xs : List Int} {k : Nat} {x : Int} (h : xs[k]? = some x) : xs = xs.take k ++ x :: xs.drop (k + 1) := by
  have hl := (List.getElem?_eq_some_iff.1 h).1
  conv => lhs; rw [← List.take_append_drop k xs]
  rw [List.drop_eq_getElem_cons hl, (List.getElem?_eq_some_iff.1 h).2]
theorem lessL_at {xs ys : List Int} {k : Nat} {x y : Int} (hx : xs[k]? = some x) (hy : ys[k]? = some y) (h : xs.take k = ys.take k) (hne : x ≠ y) : lessL xs ys = decide (x < y) := by
  rw [split_at hx, split_at hy, h, lessL_app, lessL, if_neg hne]
theorem lessL_endR {xs ys : List Int} {k : Nat} (hk : ys.length ≤ k) (h : xs.take k = ys.take k) : lessL xs ys = false := by
  have e1 : ys = xs.take k ++ [] := by rw [List.append_nil, h, List.take_of_length_le hk]
  have e2 : xs = xs.take k ++ xs.drop k := (List.take_append_drop k xs).symm
  rw [e1]
  conv => lhs; arg 1; rw [e2]
  rw [lessL_app]
  cases xs.drop k <;> rfl
theorem lessL_endL {xs ys : List Int} (h : xs = ys.take xs.length) : lessL xs ys = decide (xs.length < ys.length) := by
  have e1 : ys = xs ++ ys.drop xs.length := by
    conv => lhs; rw [← List.take_append_drop xs.length ys, ← h]
  have e2 := lessL_app xs [] (ys.drop xs.length)
  rw [List.append_nil, ← e1] at e2
  rw [e2]
  cases hd : ys.drop xs.length with
  | nil =>
    have := List.drop_eq_nil_iff.1 hd
    simp [lessL]; omega
  | cons z t =>
    have : xs.length < ys.length := by
      rcases Nat.lt_or_ge xs.length ys.length with h' | h'
      · exact h'
      · rw [List.drop_eq_nil_iff.2 h'] at hd; cases hd
    simp [lessL]; omega

set_option maxHeartbeats 2000000 in
set_option maxRecDepth 100000 in
theorem rLess_any (R Q : Nat → Prop) (xs ys : List Int) (v u : Value) (w : World) (hv : IntsIn R .i32 w v xs) (hu : IntsIn Q .i32 w u ys) (hx : xs.length ≤ maxLen) (hy : ys.length ≤ maxLen) :
    Calls Try.prog 41 #[v, u] w fun e w' => e = .returned (.bool (lessL xs ys)) ∧ Below w.heap.size w w' := by
  have HV := Lib.hid hv
  have HU := Lib.hid hu
  obtain ⟨p, cp, rfl, _⟩ := hv
  obtain ⟨q, cq, rfl, _⟩ := hu
  unfold maxLen at hx hy
  go_enter Try.func41, Try.ntmps41
  go_wp2
  go_loopw [8] (fun i wr => ∃ k : Nat, i = .int .i64 k ∧ (k ≤ xs.length ∧ xs.take k = ys.take k) ∧ Below w.heap.size w wr) (fun i _ => xs.length - (intOf i).toNat)
  case atStart => exact ⟨0, rfl, ⟨Nat.zero_le _, by simp⟩, Below.refl _ _⟩
  case round =>
    obtain ⟨k, rfl, hr, hbr⟩ := hrel
    have HR := Lib.hid hr
    have HB := Lib.hid hbr
    by_cases hlt : k < xs.length
    · have hlt' : decide (k < xs.length) = true := decide_eq_true hlt
      by_cases hky : ys.length ≤ k
      · have hky' : decide (ys.length ≤ k) = true := decide_eq_true hky
        have HN := Lib.hid (lessL_endR hky hr.2)
        clear hr hbr hky
        go_wp2
        go_ret
        exact ⟨by rw [HN.out]; rfl, HB.out⟩
      · have hky' : decide (ys.length ≤ k) = false := decide_eq_false hky
        have hlty : k < ys.length := by omega
        obtain ⟨b, o, rfl, _, hb, hc⟩ := (HV.out.kept (Kept.below hbr)).at k hlt
        obtain ⟨b2, o2, rfl, _, hb2, hc2⟩ := (HU.out.kept (Kept.below hbr)).at k hlty
        have e1 : xs[k]? = some (xs.getD k 0) := by rw [List.getD_eq_getElem?_getD, List.getElem?_eq_getElem hlt]; rfl
        have e2 : ys[k]? = some (ys.getD k 0) := by rw [List.getD_eq_getElem?_getD, List.getElem?_eq_getElem hlty]; rfl
        have HE := Lib.hid (And.intro e1 e2)
        have HL := Lib.hid hlt
        generalize xs.getD k 0 = x at hc HE
        generalize ys.getD k 0 = y at hc2 HE
        clear hr hbr hky e1 e2
        by_cases hxy : x = y
        · have hxy' : (x != y) = false := by rw [hxy]; simp
          have HN : Hid (xs.take (k + 1) = ys.take (k + 1)) := by
            show _ = _
            rw [take_snoc' HE.out.1, take_snoc' HE.out.2, HR.out.2, hxy]
          clear hxy
          go_wp2
          go_quiet (fail)
          go_wp2
          go_roundw
          case rel => exact ⟨k + 1, by go_num, ⟨HL.out, HN.out⟩, HB.out.trans (below_drewN (Below.refl _ _) _)⟩
          case measure => (have hq := HL.out; simp [intOf]; omega)
        · have hxy' : (x != y) = true := by simpa using hxy
          have HN := Lib.hid (lessL_at HE.out.1 HE.out.2 HR.out.2 hxy)
          clear hxy
          go_wp2
          go_quiet (fail)
          go_wp2
          go_quiet (fail)
          go_wp2
          go_ret
          exact ⟨by rw [HN.out]; rfl, HB.out.trans (below_drewN (below_drewN (Below.refl _ _) _) _)⟩
    · have hlt' : decide (k < xs.length) = false := decide_eq_false hlt
      have hke : k = xs.length := by have := hr.1; omega
      have HN : Hid (lessL xs ys = decide (xs.length < ys.length)) := by
        have h2 := hr.2
        rw [hke, List.take_length] at h2
        exact lessL_endL h2
      clear hlt hr hbr hke
      go_wp2
      go_ret
      exact ⟨by rw [HN.out]; simp, HB.out⟩
set_option maxHeartbeats 2000000 in
set_option maxRecDepth 100000 in
theorem rSame_any (R Q : Nat → Prop) (x y : Ent) (c u c2 u2 : Value) (w : World) (hc : IntsIn R .i32 w c x.1) (hu : ElsIn R w u x.2) (hc2 : IntsIn Q .i32 w c2 y.1) (hu2 : ElsIn Q w u2 y.2) (hx : EntOk x) (hy : EntOk y) :
    Calls Try.prog 23 #[.agg #[c, u], .agg #[c2, u2]] w fun e w' => e = .returned (.bool (decide (x = y))) ∧ Below w.heap.size w w' := by
  have l1 : x.1.length ≤ maxLen := by have := hx.1; unfold maxLen; omega
  have l2 : y.1.length ≤ maxLen := by have := hy.1; unfold maxLen; omega
  have l3 : x.2.length ≤ maxLen := by have := hx.2.1; unfold maxLen; omega
  have l4 : y.2.length ≤ maxLen := by have := hy.2.1; unfold maxLen; omega
  obtain ⟨V, hV⟩ : ∃ V, (w.alloc (.cells #[c, u] 35)).alloc (.cells #[c2, u2] 35) = V := ⟨_, rfl⟩
  have hbV : Below w.heap.size w V := by rw [← hV]; exact ((Below.refl _ w).alloc (Nat.le_refl _) _).alloc (by simp) _
  have H1 := Lib.hid (runes_any R Q x.1 y.1 c c2 V (hc.kept (Kept.below hbV)) (hc2.kept (Kept.below hbV)) l1 l2)
  have H2 := Lib.hid (fun (U : World) (hU : Below V.heap.size V U) => same7_any R Q x.2 y.2 u u2 U (hu.kept (Kept.below (hbV.trans (hU.mono hbV.size)))) (hu2.kept (Kept.below (hbV.trans (hU.mono hbV.size)))) l3 l4)
  obtain ⟨p1, n1, rfl, _⟩ := hc
  obtain ⟨p2, n2, rfl, _⟩ := hu
  obtain ⟨p3, n3, rfl, _⟩ := hc2
  obtain ⟨p4, n4, rfl, _⟩ := hu2
  have HBV := Lib.hid hbV
  have v0 : V.cell? ⟨w.heap.size, 0, none⟩ = some (.slice p1 x.1.length n1) := by rw [← hV]; simp [go_sem]
  have v1 : V.cell? ⟨w.heap.size, 1, none⟩ = some (.slice p2 x.2.length n2) := by rw [← hV]; simp [go_sem]
  have v2 : V.cell? ⟨w.heap.size + 1, 0, none⟩ = some (.slice p3 y.1.length n3) := by rw [← hV]; simp [go_sem]
  have v3 : V.cell? ⟨w.heap.size + 1, 1, none⟩ = some (.slice p4 y.2.length n4) := by rw [← hV]; simp [go_sem]
  clear hbV hx hy l1 l2 l3 l4
  have HVE := Lib.hid hV
  go_enter Try.func23, Try.ntmps23
  go_wp2_with fail
  clear hV
  have hw0 : w.heap.size < V.heap.size := World.block_lt_of_cell? V _ v0
  have hw1 : w.heap.size + 1 < V.heap.size := World.block_lt_of_cell? V _ v2
  refine H1.out.mono ?_
  rintro e w1 ⟨rfl, hb1⟩
  have q1 := hb1.cell (p := ⟨w.heap.size, 1, none⟩) hw0
  have q3 := hb1.cell (p := ⟨w.heap.size + 1, 1, none⟩) hw1
  rw [v1] at q1
  rw [v3] at q3
  have H3 := Lib.hid (H2.out w1 hb1)
  have HB1 : Hid (Below w.heap.size w w1) := HBV.out.trans (hb1.mono HBV.out.size)
  clear hb1 v0 v1 v2 v3 hw0 hw1 H1 H2
  by_cases hxy : x.1 = y.1
  · have hd : decide (x.1 = y.1) = true := decide_eq_true hxy
    have HE : Hid (decide (x = y) = decide (x.2 = y.2)) := by
      show _ = _
      rw [Bool.eq_iff_iff, decide_eq_true_eq, decide_eq_true_eq, Prod.ext_iff]
      exact ⟨fun h => h.2, fun h => ⟨hxy, h⟩⟩
    rw [hd]
    clear hxy hd
    go_wp2_with fail
    refine H3.out.mono ?_
    rintro e w2 ⟨rfl, hb2⟩
    go_wp2
    go_ret
    exact ⟨by rw [HE.out]; rfl, HB1.out.trans (hb2.mono HB1.out.size)⟩
  · have hd : decide (x.1 = y.1) = false := decide_eq_false hxy
    have HE : Hid (decide (x = y) = false) := decide_eq_false (fun h => hxy (by rw [h]))
    rw [hd]
    clear hxy hd
    go_wp2
    go_ret
    exact ⟨by rw [HE.out]; rfl, HB1.out⟩
end Go.Proofs.Ytcifoallahmjbaa
