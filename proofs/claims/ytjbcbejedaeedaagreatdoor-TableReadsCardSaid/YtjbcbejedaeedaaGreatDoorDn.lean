/- Chapter 8: whether a source is small enough: walked. The reference of chapter 7: whether lists of elements are the same: walked. -/
import Derived.Test.YtjbcbejedaeedaaGreatDoorAc
import Derived.Test.YtjbcbejedaeedaaGreatDoorOpenQ
import Derived.Deep.QuietTactic
import Derived.BigQuiet
import Derived.Laws.StructEq
/-! Chapter 8: whether a source is small enough: walked. -/
namespace Go.Proofs.YtjbcbejedaeedaaGreatDoor
open Go.RowKit

def sumQ (es : List Ent) : Nat := (es.map fun x => x.1.length + x.2.length).sum
theorem sumQ_step {es : List Ent} {k : Nat} {x : Ent} (hx : es[k]? = some x) : sumQ (es.take (k + 1)) = sumQ (es.take k) + (x.1.length + x.2.length) := by
  unfold sumQ; rw [take_snocR hx]; simp
theorem sumQ_le (es : List Ent) (h : ∀ x ∈ es, x.1.length ≤ 1048576 ∧ x.2.length ≤ 1048576) : sumQ es ≤ es.length * 2097152 := by
  induction es with
  | nil => simp [sumQ]
  | cons x xs ih =>
    have h1 := h x (List.mem_cons_self ..)
    have h2 := ih (fun y hy => h y (List.mem_cons_of_mem _ hy))
    unfold sumQ at *
    simp only [List.map_cons, List.sum_cons, List.length_cons]
    omega
theorem sumQ_mem {es : List Ent} {x : Ent} (h : x ∈ es) : x.1.length + x.2.length ≤ sumQ es := by
  induction es with
  | nil => cases h
  | cons y ys ih =>
    unfold sumQ at *
    simp only [List.map_cons, List.sum_cons]
    rcases List.mem_cons.1 h with rfl | h
    · omega
    · have := ih h; omega

set_option maxHeartbeats 4000000 in
set_option maxRecDepth 100000 in
theorem few8_any (R : Nat → Prop) (es : List Ent) (ver : ByteArray) (n c1 : Nat) (p1 : Option Addr) (v : Value) (w : World) (hv : EntsIn R w v es) (hok : ∀ x ∈ es, x.1.length ≤ 1048576 ∧ x.2.length ≤ 1048576) (hl : es.length ≤ 1048576) (hn : n ≤ 1048576) :
    Calls Tryz.prog 10 #[.agg #[.string ver, .slice p1 n c1, v]] w fun e w' => e = .returned (.bool (decide (es.length + n + sumQ es ≤ 1500))) ∧ Below w.heap.size w w' := by
  have HV := Lib.hid hv
  obtain ⟨p, cp, rfl, _⟩ := hv
  have HOK := Lib.hid hok
  clear hok
  go_enter Tryz.func10, Tryz.ntmps10
  go_wp2
  go_loopw [3, 16] (fun nv i wr => ∃ k : Nat, i = .int .i64 k ∧ k ≤ es.length ∧ nv = .int .i64 ((es.length + n + sumQ (es.take k) : Nat) : Int) ∧ Below w.heap.size w wr) (fun _ i _ => es.length - (intOf i).toNat)
  case atStart => exact ⟨0, rfl, Nat.zero_le _, by simp [sumQ], by (repeat' (first | (with_reducible exact Below.refl _ _) | (with_reducible assumption) | (with_reducible refine Below.alloc ?_ ?_ _) | (with_reducible refine Below.drew ?_) | (with_reducible refine below_drewN ?_ _) | (with_reducible refine Below.setCell ?_ ?_ _) | (with_reducible refine Below.trans ?_ (Below.mono (by assumption) ?_)) | go_size))⟩
  case round =>
    obtain ⟨k, rfl, hk, rfl, hbr⟩ := hrel
    have HB := Lib.hid hbr
    by_cases hlt : k < es.length
    · have hlt' : decide (k < es.length) = true := decide_eq_true hlt
      obtain ⟨x, hx⟩ : ∃ x, es[k]? = some x := ⟨es[k], List.getElem?_eq_getElem hlt⟩
      obtain ⟨b, o, c, el, rfl, hbR, hbl, hc0, hc1, hci, hue⟩ := (HV.out.kept (Kept.below hbr)).at k x hx
      obtain ⟨pc, cc, rfl, _⟩ := hci
      obtain ⟨pu, cu, rfl, _⟩ := hue
      have HL := Lib.hid hlt
      have hst := sumQ_step hx
      have hox := HOK.out x (List.mem_of_getElem? hx)
      have hb1 := hox.1
      have hb2 := hox.2
      have hs := sumQ_le (es.take k) (fun y hy => HOK.out y (List.mem_of_mem_take hy))
      have htl : (es.take k).length ≤ 1048576 := by rw [List.length_take]; omega
      obtain ⟨m, hm⟩ : ∃ m, m = sumQ (es.take k) := ⟨_, rfl⟩
      rw [← hm] at hst hs
      rw [← hm]
      have hx1 : x.1.length ≤ 1048576 := by omega
      have hx2 : x.2.length ≤ 1048576 := by omega
      have hmm : m ≤ 2199023255552 := by omega
      have HST := Lib.hid hst
      clear hx hlt hbr hm hst hox hb1 hb2 hs htl
      go_wp2
      go_roundw
      case rel => exact ⟨k + 1, by go_num, HL.out, by rw [HST.out]; push_cast; congr 1; omega, HB.out.trans (((Below.refl _ wr).alloc (Nat.le_refl _) _).mono HB.out.size)⟩
      case measure => (have hq := HL.out; simp [intOf]; omega)
    · have hlt' : decide (k < es.length) = false := decide_eq_false hlt
      have HE : Hid (es.take k = es) := List.take_of_length_le (by omega)
      obtain ⟨m, hm⟩ : ∃ m, m = sumQ (es.take k) := ⟨_, rfl⟩
      rw [← hm]
      rw [HE.out] at hm
      have HM := Lib.hid hm
      clear hlt hbr hm
      go_wp2
      go_ret
      exact ⟨by rw [← HM.out]; (have e : ((es.length + n + m : Nat) : Int) ≤ 1500 ↔ es.length + n + m ≤ 1500 := by omega); simp only [Ending.returned.injEq]; show Value.bool _ = _; simp only [Value.bool.injEq]; first | rfl | (rw [Bool.eq_iff_iff]; simp; omega), HB.out⟩
end Go.Proofs.YtjbcbejedaeedaaGreatDoor
/-! The reference of chapter 7: whether lists of elements are the same: walked. -/
namespace Go.Proofs.YtjbcbejedaeedaaGreatDoor
open Go.RowKit

theorem eqGuardE : Tryz.prog.eqGuardType Tryz.prog.depth 79 = false := by kernel_rfl
theorem heldE : Tryz.prog.stoodInHeld 79 = false := by kernel_rfl
theorem neqE (x y : El) (w : World) : (binOp .neq 79 (elAgg x) (elAgg y)).run Tryz.prog w = .ok (.bool (decide (x ≠ y))) w := by
  obtain ⟨p, s, t, v⟩ := x
  obtain ⟨q, r, u, z⟩ := y
  unfold elAgg
  rw [run_neq_struct, run_equalIn_agg (P := Tryz.prog) w 9999 79 _ _ (by kernel_rfl) heldE]
  simp only [Program.fieldsOf, Tryz.underlying79]
  have u3 := Tryz.underlying3
  have a3 := Tryz.isAgg3
  have z3 := Tryz.sizeOf3
  have u4 := Tryz.underlying4
  have a4 := Tryz.isAgg4
  have z4 := Tryz.sizeOf4
  go_simp
  by_cases h1 : p = q <;> by_cases h2 : s = r <;> by_cases h3 : t = u <;> cases v <;> cases z <;> simp [h1, h2, h3]

theorem takeE_eq_step {xs ys : List El} {k : Nat} {x y : El} (hx : xs[k]? = some x) (hy : ys[k]? = some y) (h : xs.take k = ys.take k) : (xs.take (k + 1) = ys.take (k + 1) ↔ x = y) := by
  have e1 : xs.take (k + 1) = xs.take k ++ [x] := by rw [List.take_add_one, hx]; rfl
  have e2 : ys.take (k + 1) = ys.take k ++ [y] := by rw [List.take_add_one, hy]; rfl
  rw [e1, e2, h]
  constructor
  · intro e; have := List.append_cancel_left e; simpa using this
  · intro e; rw [e]

set_option maxHeartbeats 2000000 in
set_option maxRecDepth 100000 in
theorem same7_any (R Q : Nat → Prop) (xs ys : List El) (v u : Value) (w : World) (hv : ElsIn R w v xs) (hu : ElsIn Q w u ys) (hx : xs.length ≤ maxLen) (hy : ys.length ≤ maxLen) :
    Calls Tryz.prog 15 #[v, u] w fun e w' => e = .returned (.bool (decide (xs = ys))) ∧ Below w.heap.size w w' := by
  have HV := Lib.hid hv
  have HU := Lib.hid hu
  obtain ⟨p, cp, rfl, _⟩ := hv
  obtain ⟨q, cq, rfl, _⟩ := hu
  unfold maxLen at hx hy
  by_cases hlen : xs.length = ys.length
  · have hne : ((xs.length : Int) != (ys.length : Int)) = false := by rw [hlen]; simp
    have hne' : (xs.length != ys.length) = false := by rw [hlen]; simp
    have HLN := Lib.hid hlen
    clear hlen
    go_enter Tryz.func15, Tryz.ntmps15
    go_wp2
    go_loopw [13] (fun i wr => ∃ k : Nat, i = .int .i64 k ∧ (k ≤ xs.length ∧ xs.take k = ys.take k) ∧ Below w.heap.size w wr) (fun i _ => xs.length - (intOf i).toNat)
    case atStart => exact ⟨0, rfl, ⟨Nat.zero_le _, by simp⟩, Below.refl _ _⟩
    case round =>
      obtain ⟨k, rfl, hr, hbr⟩ := hrel
      have HR := Lib.hid hr
      have HB := Lib.hid hbr
      by_cases hlt : k < xs.length
      · have hlt' : decide (k < xs.length) = true := decide_eq_true hlt
        have hlty : k < ys.length := (by have := HLN.out; omega)
        obtain ⟨x, hxk⟩ : ∃ x, xs[k]? = some x := ⟨xs[k], List.getElem?_eq_getElem hlt⟩
        obtain ⟨y, hyk⟩ : ∃ y, ys[k]? = some y := ⟨ys[k], List.getElem?_eq_getElem hlty⟩
        obtain ⟨b, o, rfl, _, hb, c0, c1, c2, c3⟩ := (HV.out.kept (Kept.below hbr)).at k x hxk
        obtain ⟨b2, o2, rfl, _, hb2, d0, d1, d2, d3⟩ := (HU.out.kept (Kept.below hbr)).at k y hyk
        have HT := Lib.hid (takeE_eq_step hxk hyk hr.2)
        have HL := Lib.hid hlt
        have hq := neqE x y
        unfold elAgg at hq
        clear hr hbr hxk hyk
        by_cases hxy : x = y
        · have hxy' : decide (x ≠ y) = false := by simp [hxy]
          rw [hxy'] at hq
          have HN := Lib.hid (HT.out.2 hxy)
          clear hxy hxy'
          obtain ⟨xp, xs', xt, xv⟩ := x
          obtain ⟨yp, ys', yt, yv⟩ := y
          simp only at c0 c1 c2 c3 d0 d1 d2 d3 hq
          go_wp2
          go_quiet (fail)
          go_wp2
          go_roundw
          case rel => exact ⟨k + 1, by go_num, ⟨HL.out, HN.out⟩, HB.out.trans ((below_drewQ _ _).mono HB.out.size)⟩
          case measure => (have hq := HL.out; simp [intOf]; omega)
        · have hxy' : decide (x ≠ y) = true := by simpa using hxy
          rw [hxy'] at hq
          have HN : Hid (decide (xs = ys) = false) := by
            show _ = _
            rw [decide_eq_false_iff_not]; intro e; exact hxy (HT.out.1 (by rw [e]))
          clear hxy hxy'
          obtain ⟨xp, xs', xt, xv⟩ := x
          obtain ⟨yp, ys', yt, yv⟩ := y
          simp only at c0 c1 c2 c3 d0 d1 d2 d3 hq
          go_wp2
          go_quiet (fail)
          go_wp2
          go_ret
          exact ⟨by rw [HN.out]; rfl, HB.out.trans ((below_drewQ _ _).mono HB.out.size)⟩
      · have hlt' : decide (k < xs.length) = false := decide_eq_false hlt
        have HN : Hid (decide (xs = ys) = true) := by
          show _ = _
          rw [decide_eq_true_eq]
          have := hr.2
          rwa [List.take_of_length_le (by omega), List.take_of_length_le (by have := HLN.out; omega)] at this
        clear hlt hr hbr
        go_wp2
        go_ret
        exact ⟨by rw [HN.out]; rfl, HB.out⟩
  · have hne : ((xs.length : Int) != (ys.length : Int)) = true := by simpa using (show ¬ (xs.length : Int) = (ys.length : Int) by omega)
    have hne' : (xs.length != ys.length) = true := by simpa using hlen
    have HN : Hid (decide (xs = ys) = false) := by
      show _ = _
      rw [decide_eq_false_iff_not]; intro e; exact hlen (by rw [e])
    clear hlen
    go_enter Tryz.func15, Tryz.ntmps15
    go_wp2
    go_ret
    exact ⟨by rw [HN.out]; rfl, Below.refl _ _⟩
end Go.Proofs.YtjbcbejedaeedaaGreatDoor
