/- The reference: elements alike. -/
import Derived.Test.YtcifoallahmjbaaTr
import Derived.Laws.StructEq
namespace Go.Proofs.Ytcifoallahmjbaa
open Go.RowKit

theorem eqGuardE : Try.prog.eqGuardType Try.prog.depth 66 = false := by kernel_rfl
theorem heldE : Try.prog.stoodInHeld 66 = false := by kernel_rfl
theorem neqE (x y : El) (w : World) : (binOp .neq 66 (elAgg x) (elAgg y)).run Try.prog w = .ok (.bool (decide (x ≠ y))) w := by
  obtain ⟨p, s, t, v⟩ := x
  obtain ⟨q, r, u, z⟩ := y
  unfold elAgg
  rw [run_neq_struct, run_equalIn_agg (P := Try.prog) w 9999 66 _ _ (by kernel_rfl) heldE]
  simp only [Program.fieldsOf, Try.underlying66]
  have u3 := Try.underlying3
  have a3 := Try.isAgg3
  have z3 := Try.sizeOf3
  have u4 := Try.underlying4
  have a4 := Try.isAgg4
  have z4 := Try.sizeOf4
  go_simp
  by_cases h1 : p = q <;> by_cases h2 : s = r <;> by_cases h3 : t = u <;> cases v <;> cases z <;> simp [h1, h2, h3]

theorem takeE_eq_step {xs ys : List El} {k : Nat} {x y : El} (hx : xs[k]? = some x) (hy : ys[k]? = some y) (h : xs.take k = ys.take k) : (xs.take (k + 1) = ys.take (k + 1) ↔ x = y) := by
  have e1 : xs.take (k + 1) = xs.take k ++ [x] := by rw [List.take_add_one, hx]; rfl
  have e2 : ys.take (k + 1) = ys.take k ++ [y] := by rw [List.take_add_one, hy]; rfl
  rw [e1, e2, h]
  constructor
  · intro e; have := List.append_cancel_left e; simpa using this
  · intro e; rw [e]

set_option maxHeartbeats 2000000 in
set_option maxRecDepth 100000 in
theorem same7_any (R Q : Nat → Prop) (xs ys : List El) (v u : Value) (w : World) (hv : ElsIn R w v xs) (hu : ElsIn Q w u ys) (hx : xs.length ≤ maxLen) (hy : ys.length ≤ maxLen) :
    Calls Try.prog 14 #[v, u] w fun e w' => e = .returned (.bool (decide (xs = ys))) ∧ Below w.heap.size w w' := by
  have HV := Lib.hid hv
  have HU := Lib.hid hu
  obtain ⟨p, cp, rfl, _⟩ := hv
  obtain ⟨q, cq, rfl, _⟩ := hu
  unfold maxLen at hx hy
  by_cases hlen : xs.length = ys.length
  · have hne : ((xs.length : Int) != (ys.length : Int)) = false := by rw [hlen]; simp
    have hne' : (xs.length != ys.length) = false := by rw [hlen]; simp
    have HLN := Lib.hid hlen
    clear hlen
    go_enter Try.func14, Try.ntmps14
    go_wp2
    go_loopw [13] (fun i wr => ∃ k : Nat, i = .int .i64 k ∧ (k ≤ xs.length ∧ xs.take k = ys.take k) ∧ Below w.heap.size w wr) (fun i _ => xs.length - (intOf i).toNat)
    case atStart => exact ⟨0, rfl, ⟨Nat.zero_le _, by simp⟩, Below.refl _ _⟩
    case round =>
      obtain ⟨k, rfl, hr, hbr⟩ := hrel
      have HR := Lib.hid hr
      have HB := Lib.hid hbr
      by_cases hlt : k < xs.length
      · have hlt' : decide (k < xs.length) = true := decide_eq_true hlt
        have hlty : k < ys.length := (by have := HLN.out; omega)
        obtain ⟨x, hxk⟩ : ∃ x, xs[k]? = some x := ⟨xs[k], List.getElem?_eq_getElem hlt⟩
        obtain ⟨y, hyk⟩ : ∃ y, ys[k]? = some y := ⟨ys[k], List.getElem?_eq_getElem hlty⟩
        obtain ⟨b, o, rfl, _, hb, c0, c1, c2, c3⟩ := (HV.out.kept (Kept.below hbr)).at k x hxk
        obtain ⟨b2, o2, rfl, _, hb2, d0, d1, d2, d3⟩ := (HU.out.kept (Kept.below hbr)).at k y hyk
        have HT := Lib.hid (takeE_eq_step hxk hyk hr.2)
        have HL := Lib.hid hlt
        have hq := neqE x y
        unfold elAgg at hq
        clear hr hbr hxk hyk
        by_cases hxy : x = y
        · have hxy' : decide (x ≠ y) = false := by simp [hxy]
          rw [hxy'] at hq
          have HN := Lib.hid (HT.out.2 hxy)
          clear hxy hxy'
          obtain ⟨xp, xs', xt, xv⟩ := x
          obtain ⟨yp, ys', yt, yv⟩ := y
          simp only at c0 c1 c2 c3 d0 d1 d2 d3 hq
          go_wp2
          go_quiet (fail)
          go_wp2
          go_roundw
          case rel => exact ⟨k + 1, by go_num, ⟨HL.out, HN.out⟩, HB.out.trans (below_drewN (Below.refl _ _) _)⟩
          case measure => (have hq := HL.out; simp [intOf]; omega)
        · have hxy' : decide (x ≠ y) = true := by simpa using hxy
          rw [hxy'] at hq
          have HN : Hid (decide (xs = ys) = false) := by
            show _ = _
            rw [decide_eq_false_iff_not]; intro e; exact hxy (HT.out.1 (by rw [e]))
          clear hxy hxy'
          obtain ⟨xp, xs', xt, xv⟩ := x
          obtain ⟨yp, ys', yt, yv⟩ := y
          simp only at c0 c1 c2 c3 d0 d1 d2 d3 hq
          go_wp2
          go_quiet (fail)
          go_wp2
          go_ret
          exact ⟨by rw [HN.out]; rfl, HB.out.trans (below_drewN (Below.refl _ _) _)⟩
      · have hlt' : decide (k < xs.length) = false := decide_eq_false hlt
        have HN : Hid (decide (xs = ys) = true) := by
          show _ = _
          rw [decide_eq_true_eq]
          have := hr.2
          rwa [List.take_of_length_le (by omega), List.take_of_length_le (by have := HLN.out; omega)] at this
        clear hlt hr hbr
        go_wp2
        go_ret
        exact ⟨by rw [HN.out]; rfl, HB.out⟩
  · have hne : ((xs.length : Int) != (ys.length : Int)) = true := by simpa using (show ¬ (xs.length : Int) = (ys.length : Int) by omega)
    have hne' : (xs.length != ys.length) = true := by simpa using hlen
    have HN : Hid (decide (xs = ys) = false) := by
      show _ = _
      rw [decide_eq_false_iff_not]; intro e; exact hlen (by rw [e])
    clear hlen
    go_enter Try.func14, Try.ntmps14
    go_wp2
    go_ret
    exact ⟨by rw [HN.out]; rfl, Below.refl _ _⟩
end Go.Proofs.Ytcifoallahmjbaa
