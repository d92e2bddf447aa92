/- The reference of chapter 7: Ranges: any ranges: walked. The reference of chapter 8: Parse: walked. Chapter 8: any text is read as the document says: the law walked. -/
import Derived.Test.YtjbcbejedaeedaaGreatDoorDe
import Derived.Test.YtjbcbejedaeedaaGreatDoorLm
import Derived.Test.YtjbcbejedaeedaaGreatDoorLb
import Derived.Test.YtjbcbejedaeedaaGreatDoorDg
/-! The reference of chapter 7: Ranges: any ranges: walked. -/
namespace Go.Proofs.YtjbcbejedaeedaaGreatDoor
open Go.RowKit

theorem below_dN {B : Nat} {a w : World} (h : Below B a w) (n : Nat) : Below B a (w.drewN n) := ⟨h.os, h.tape, h.output, h.size, h.block⟩
set_option maxHeartbeats 8000000 in
set_option maxRecDepth 100000 in
theorem rRanges_any (R : Nat → Prop) (rs : List Rng) (v : Value) (w : World) (hv : RngsIn R w v rs) (hl : rs.length ≤ 1000000000) :
    Calls Tryz.prog 27 #[v] w fun e w' => e = .returned (.int .i64 (rngC rs)) ∧ Below w.heap.size w w' := by
  obtain ⟨p, cap, rfl, hc⟩ := hv
  have HC : Hid (∀ (W : World), Below w.heap.size w W → ∀ (i : Nat) x, rs[i]? = some x → ∃ b o, p = some ⟨b, o, none⟩ ∧ b < W.heap.size ∧ Rg4 W b (o + i * 4) x) := by
    show ∀ W, _
    intro W hb i x hx
    obtain ⟨b, o, e, _, hl, hcc⟩ := hc i x hx
    exact ⟨b, o, e, Nat.lt_of_lt_of_le hl hb.size, hcc.of (hb.block b hl)⟩
  clear hc
  obtain ⟨n, hn⟩ : ∃ n, n = rs.length := ⟨_, rfl⟩
  rw [← hn] at hl ⊢
  have HN := Lib.hid hn
  clear hn
  by_cases h100 : 100 < n
  · have HE : Hid (rngC rs = 2) := rngC_big (by rw [← HN.out]; exact h100)
    have g1 : (n : Int) > 100 := by omega
    clear h100
    go_enter Tryz.func27, Tryz.ntmps27
    go_wp2_with fail
    go_ret
    exact ⟨by rw [HE.out] <;> rfl, Below.refl _ _⟩
  · have HNB : Hid (¬ 100 < rs.length) := by rw [← HN.out]; exact h100
    have g1 : decide ((n : Int) > 100) = false := decide_eq_false (by omega)
    have hn100 : n ≤ 100 := by omega
    clear h100 hl
    go_enter Tryz.func27, Tryz.ntmps27
    go_wp2_with fail
    go_loopw [10] (fun iv wr => ∃ k : Nat, iv = .int .i64 k ∧ k ≤ n ∧ rngG none rs = rngG (prevR rs k) (rs.drop k) ∧ Below w.heap.size w wr) (fun iv _ => n - (intOf iv).toNat)
    case atStart => exact ⟨0, rfl, Nat.zero_le _, rfl, Below.refl _ _⟩
    case round =>
      obtain ⟨k, rfl, hk, hg, hb⟩ := hrel
      have HG := Lib.hid hg
      have HB := Lib.hid hb
      clear hg hb
      by_cases hlt : k < n
      · obtain ⟨x, hx⟩ : ∃ x, rs[k]? = some x := ⟨_, List.getElem?_eq_getElem (by have := HN.out; omega)⟩
        obtain ⟨b, o, rfl, hbl, q0, q1, q2, q3⟩ := HC.out wr HB.out k x hx
        have HAT := Lib.hid (rngG_at hx)
        have HPS := Lib.hid (prevR_succ hx)
        have HX := Lib.hid hx
        have HFAIL : Hid (¬ (rng1 (prevR rs k) x ∧ rng2 x) → rngC rs = 71) := by
          show _ → _
          intro h
          refine rngC_no HNB.out ?_
          rw [HG.out, HAT.out]
          cases hr : rngB (prevR rs k) x with
          | true => exact absurd ((rngB_iff _ _).1 hr) h
          | false => rfl
        have HGO : Hid (rng1 (prevR rs k) x → rng2 x → rngG none rs = rngG (prevR rs (k + 1)) (rs.drop (k + 1))) := by
          show _ → _
          intro h1 h2
          rw [HG.out, HAT.out, (rngB_iff _ _).2 ⟨h1, h2⟩, Bool.true_and]
        obtain ⟨f, t, bs, wh⟩ := x
        simp only at q0 q1 q2 q3
        have g2 : (k : Int) < (n : Int) := by omega
        have HKN := Lib.hid hlt
        have HBX : Hid (∀ m, Below w.heap.size w ((wr.alloc (.cells #[.int .i32 f, .int .i32 t, .int .i64 bs, .bool wh] 61)).drewN m)) := by
          show ∀ m, _
          intro m
          exact below_dN (HB.out.alloc HB.out.size _) m
        have HK0 : Hid (k = 0 → prevR rs k = none) := fun h => by unfold prevR; rw [if_pos h]
        have HK1 : Hid (∀ j, k = j + 1 → prevR rs k = rs[j]?) := fun j h => by unfold prevR; rw [if_neg (by omega), show k - 1 = j from by omega]
        have HD : Hid (∀ W, Below w.heap.size w W → ∀ j y, rs[j]? = some y → b < W.heap.size ∧ W.cell? ⟨b, o + j * 4 + 1, none⟩ = some (.int .i32 y.2.1)) := by
          show ∀ W, _
          intro W hW j y hy
          obtain ⟨b', o', e, hl', _, h1, _⟩ := HC.out W hW j y hy
          cases e
          exact ⟨hl', h1⟩
        have HKK := Lib.hid hk
        clear hx hlt hk
        by_cases c1 : f < 0
        · have e1 : decide (f < 0) = true := decide_eq_true c1
          have HE := Lib.hid (HFAIL.out (fun h => by have := h.1.1; dsimp only at this; omega))
          clear c1
          go_wp2_with fail
          go_quiet (fail)
          go_wp2_with fail
          all_goals go_ret
          all_goals exact ⟨by rw [HE.out] <;> rfl, HBX.out _⟩
        have e1 : decide (f < 0) = false := decide_eq_false c1
        have C1 := Lib.hid c1
        clear c1
        by_cases c2 : t > 1114111
        · have e2 : decide (t > 1114111) = true := decide_eq_true c2
          have HE := Lib.hid (HFAIL.out (fun h => by have := h.1.2.1; dsimp only at this; omega))
          clear c2
          go_wp2_with fail
          go_quiet (fail)
          go_wp2_with fail
          all_goals go_ret
          all_goals exact ⟨by rw [HE.out] <;> rfl, HBX.out _⟩
        have e2 : decide (t > 1114111) = false := decide_eq_false c2
        have C2 := Lib.hid c2
        clear c2
        by_cases c3 : f > t
        · have e3 : decide (f > t) = true := decide_eq_true c3
          have HE := Lib.hid (HFAIL.out (fun h => by have := h.1.2.2.1; dsimp only at this; omega))
          clear c3
          go_wp2_with fail
          go_quiet (fail)
          go_wp2_with fail
          all_goals go_ret
          all_goals exact ⟨by rw [HE.out] <;> rfl, HBX.out _⟩
        have e3 : decide (f > t) = false := decide_eq_false c3
        have C3 := Lib.hid c3
        clear c3
        rcases Nat.eq_zero_or_pos k with hk0 | hk0
        · have HPV := Lib.hid (HK0.out hk0)
          have g4 : decide ((k : Int) > 0) = false := decide_eq_false (by omega)
          have g5 : decide (0 < k) = false := decide_eq_false (by omega)
          clear hk0
          by_cases c5 : bs < 64256
          · have e5 : decide (bs < 64256) = true := decide_eq_true c5
            have HE := Lib.hid (HFAIL.out (fun h => by have := h.1.2.2.2.2.1; dsimp only at this; omega))
            clear c5
            go_wp2_with fail
            go_quiet (fail)
            go_wp2_with fail
            all_goals go_ret
            all_goals exact ⟨by rw [HE.out] <;> rfl, HBX.out _⟩
          have e5 : decide (bs < 64256) = false := decide_eq_false c5
          have C5 := Lib.hid c5
          clear c5
          by_cases c6 : bs > 64447
          · have e6 : decide (bs > 64447) = true := decide_eq_true c6
            have HE := Lib.hid (HFAIL.out (fun h => by have := h.1.2.2.2.2.2; dsimp only at this; omega))
            clear c6
            go_wp2_with fail
            go_quiet (fail)
            go_wp2_with fail
            all_goals go_ret
            all_goals exact ⟨by rw [HE.out] <;> rfl, HBX.out _⟩
          have e6 : decide (bs > 64447) = false := decide_eq_false c6
          have HR1 : Hid (rng1 (prevR rs k) (f, t, bs, wh)) := ⟨by have := C1.out; omega, by have := C2.out; dsimp only; omega, by have := C3.out; dsimp only; omega, (fun y hy => by rw [HPV.out] at hy; cases hy), by have := C5.out; dsimp only; omega, by dsimp only; omega⟩
          clear c6
          have hwt : IntKind.i32.wrap (t - f) = t - f := IntWalk.i32_in (t - f) (by have := C1.out; have := C2.out; have := C3.out; omega)
          cases wh with
          | true =>
            by_cases c7 : bs ≥ 64320
            · have e7 : decide (bs ≥ 64320) = true := decide_eq_true c7
              have HE := Lib.hid (HFAIL.out (fun h => by have := h.2; unfold rng2 at this; simp at this; omega))
              clear c7
              go_wp2_with fail
              go_quiet (fail)
              go_wp2_with fail
              all_goals go_ret
              all_goals exact ⟨by rw [HE.out] <;> rfl, HBX.out _⟩
            have e7 : decide (bs ≥ 64320) = false := decide_eq_false c7
            have C7 := Lib.hid c7
            clear c7
            by_cases c8 : t - f ≥ 32768
            · have e8 : decide (t - f ≥ 32768) = true := decide_eq_true c8
              have HE := Lib.hid (HFAIL.out (fun h => by have := h.2; unfold rng2 at this; simp at this; omega))
              clear c8
              go_wp2_with fail
              go_quiet (fail)
              go_wp2_with fail
              all_goals go_ret
              all_goals exact ⟨by rw [HE.out] <;> rfl, HBX.out _⟩
            have e8 : decide (t - f ≥ 32768) = false := decide_eq_false c8
            have C8 := Lib.hid c8
            clear c8
            have HE := Lib.hid (HGO.out HR1.out (by have := C7.out; have := C8.out; unfold rng2; simp; omega))
            go_wp2_with fail
            go_quiet (fail)
            go_wp2_with fail
            go_roundw
            case rel => exact ⟨k + 1, by go_num, HKN.out, HE.out, HBX.out _⟩
            case measure => (have := HKN.out; simp [intOf]; omega)
          | false =>
            by_cases c7 : bs = 64320
            · have e7 : (bs == 64320) = true := by rw [c7]; rfl
              have e7' : (bs != 64320) = false := by rw [c7]; rfl
              have C7 := Lib.hid c7
              clear c7
              have HE := Lib.hid (HGO.out HR1.out (by have := C7.out; unfold rng2; simp; omega))
              go_wp2_with fail
              go_quiet (fail)
              go_wp2_with fail
              go_roundw
              case rel => exact ⟨k + 1, by go_num, HKN.out, HE.out, HBX.out _⟩
              case measure => (have := HKN.out; simp [intOf]; omega)
            have e7 : (bs == 64320) = false := beq_eq_false_iff_ne.2 c7
            have e7' : (bs != 64320) = true := bne_iff_ne.2 c7
            have C7 := Lib.hid c7
            clear c7
            by_cases c8 : bs = 64384
            · have e8 : (bs == 64384) = true := by rw [c8]; rfl
              have e8' : (bs != 64384) = false := by rw [c8]; rfl
              have C8 := Lib.hid c8
              clear c8
              have HE := Lib.hid (HGO.out HR1.out (by have := C8.out; unfold rng2; simp; omega))
              go_wp2_with fail
              go_quiet (fail)
              go_wp2_with fail
              go_roundw
              case rel => exact ⟨k + 1, by go_num, HKN.out, HE.out, HBX.out _⟩
              case measure => (have := HKN.out; simp [intOf]; omega)
            have e8 : (bs == 64384) = false := beq_eq_false_iff_ne.2 c8
            have e8' : (bs != 64384) = true := bne_iff_ne.2 c8
            have HE := Lib.hid (HFAIL.out (fun h => by have := h.2; have := C7.out; unfold rng2 at *; simp at *; omega))
            clear c8
            go_wp2_with fail
            go_quiet (fail)
            go_wp2_with fail
            all_goals go_ret
            all_goals exact ⟨by rw [HE.out] <;> rfl, HBX.out _⟩
        · obtain ⟨j, hj⟩ : ∃ j, k = j + 1 := ⟨k - 1, by omega⟩
          obtain ⟨y, hy⟩ : ∃ y, rs[j]? = some y := ⟨_, List.getElem?_eq_getElem (by have := HN.out; have := HKN.out; omega)⟩
          have HPV := Lib.hid ((HK1.out j hj).trans hy)
          obtain ⟨hbl2, y1⟩ := HD.out wr HB.out j y hy
          have g4 : decide ((k : Int) > 0) = true := decide_eq_true (by omega)
          have g5 : decide (0 < k) = true := decide_eq_true (by omega)
          have g6 : (k : Int) - 1 = (j : Int) := by omega
          have g7 : j < n := by have := HKN.out; omega
          obtain ⟨y0, yt, y2, y3⟩ := y
          simp only at y1
          clear hk0 hj hy
          by_cases c4 : f ≤ yt
          · have e4 : decide (f ≤ yt) = true := decide_eq_true c4
            have HE := Lib.hid (HFAIL.out (fun h => by have := h.1.2.2.2.1 _ HPV.out; dsimp only at this; omega))
            clear c4
            go_wp2_with fail
            go_quiet (fail)
            go_wp2_with fail
            all_goals go_ret
            all_goals exact ⟨by rw [HE.out] <;> rfl, HBX.out _⟩
          have e4 : decide (f ≤ yt) = false := decide_eq_false c4
          have C4 := Lib.hid c4
          clear c4
          by_cases c5 : bs < 64256
          · have e5 : decide (bs < 64256) = true := decide_eq_true c5
            have HE := Lib.hid (HFAIL.out (fun h => by have := h.1.2.2.2.2.1; dsimp only at this; omega))
            clear c5
            go_wp2_with fail
            go_quiet (fail)
            go_wp2_with fail
            all_goals go_ret
            all_goals exact ⟨by rw [HE.out] <;> rfl, HBX.out _⟩
          have e5 : decide (bs < 64256) = false := decide_eq_false c5
          have C5 := Lib.hid c5
          clear c5
          by_cases c6 : bs > 64447
          · have e6 : decide (bs > 64447) = true := decide_eq_true c6
            have HE := Lib.hid (HFAIL.out (fun h => by have := h.1.2.2.2.2.2; dsimp only at this; omega))
            clear c6
            go_wp2_with fail
            go_quiet (fail)
            go_wp2_with fail
            all_goals go_ret
            all_goals exact ⟨by rw [HE.out] <;> rfl, HBX.out _⟩
          have e6 : decide (bs > 64447) = false := decide_eq_false c6
          have HR1 : Hid (rng1 (prevR rs k) (f, t, bs, wh)) := ⟨by have := C1.out; omega, by have := C2.out; dsimp only; omega, by have := C3.out; dsimp only; omega, (fun y hy => by rw [HPV.out] at hy; cases hy; have := C4.out; dsimp only; omega), by have := C5.out; dsimp only; omega, by dsimp only; omega⟩
          clear c6
          have hwt : IntKind.i32.wrap (t - f) = t - f := IntWalk.i32_in (t - f) (by have := C1.out; have := C2.out; have := C3.out; omega)
          cases wh with
          | true =>
            by_cases c7 : bs ≥ 64320
            · have e7 : decide (bs ≥ 64320) = true := decide_eq_true c7
              have HE := Lib.hid (HFAIL.out (fun h => by have := h.2; unfold rng2 at this; simp at this; omega))
              clear c7
              go_wp2_with fail
              go_quiet (fail)
              go_wp2_with fail
              all_goals go_ret
              all_goals exact ⟨by rw [HE.out] <;> rfl, HBX.out _⟩
            have e7 : decide (bs ≥ 64320) = false := decide_eq_false c7
            have C7 := Lib.hid c7
            clear c7
            by_cases c8 : t - f ≥ 32768
            · have e8 : decide (t - f ≥ 32768) = true := decide_eq_true c8
              have HE := Lib.hid (HFAIL.out (fun h => by have := h.2; unfold rng2 at this; simp at this; omega))
              clear c8
              go_wp2_with fail
              go_quiet (fail)
              go_wp2_with fail
              all_goals go_ret
              all_goals exact ⟨by rw [HE.out] <;> rfl, HBX.out _⟩
            have e8 : decide (t - f ≥ 32768) = false := decide_eq_false c8
            have C8 := Lib.hid c8
            clear c8
            have HE := Lib.hid (HGO.out HR1.out (by have := C7.out; have := C8.out; unfold rng2; simp; omega))
            go_wp2_with fail
            go_quiet (fail)
            go_wp2_with fail
            go_roundw
            case rel => exact ⟨k + 1, by go_num, HKN.out, HE.out, HBX.out _⟩
            case measure => (have := HKN.out; simp [intOf]; omega)
          | false =>
            by_cases c7 : bs = 64320
            · have e7 : (bs == 64320) = true := by rw [c7]; rfl
              have e7' : (bs != 64320) = false := by rw [c7]; rfl
              have C7 := Lib.hid c7
              clear c7
              have HE := Lib.hid (HGO.out HR1.out (by have := C7.out; unfold rng2; simp; omega))
              go_wp2_with fail
              go_quiet (fail)
              go_wp2_with fail
              go_roundw
              case rel => exact ⟨k + 1, by go_num, HKN.out, HE.out, HBX.out _⟩
              case measure => (have := HKN.out; simp [intOf]; omega)
            have e7 : (bs == 64320) = false := beq_eq_false_iff_ne.2 c7
            have e7' : (bs != 64320) = true := bne_iff_ne.2 c7
            have C7 := Lib.hid c7
            clear c7
            by_cases c8 : bs = 64384
            · have e8 : (bs == 64384) = true := by rw [c8]; rfl
              have e8' : (bs != 64384) = false := by rw [c8]; rfl
              have C8 := Lib.hid c8
              clear c8
              have HE := Lib.hid (HGO.out HR1.out (by have := C8.out; unfold rng2; simp; omega))
              go_wp2_with fail
              go_quiet (fail)
              go_wp2_with fail
              go_roundw
              case rel => exact ⟨k + 1, by go_num, HKN.out, HE.out, HBX.out _⟩
              case measure => (have := HKN.out; simp [intOf]; omega)
            have e8 : (bs == 64384) = false := beq_eq_false_iff_ne.2 c8
            have e8' : (bs != 64384) = true := bne_iff_ne.2 c8
            have HE := Lib.hid (HFAIL.out (fun h => by have := h.2; have := C7.out; unfold rng2 at *; simp at *; omega))
            clear c8
            go_wp2_with fail
            go_quiet (fail)
            go_wp2_with fail
            all_goals go_ret
            all_goals exact ⟨by rw [HE.out] <;> rfl, HBX.out _⟩
      · have g2 : decide ((k : Int) < (n : Int)) = false := decide_eq_false (by omega)
        have g2' : ¬ (k : Int) < (n : Int) := by omega
        have HE : Hid (rngC rs = 0) := by
          refine rngC_yes HNB.out ?_
          rw [HG.out, List.drop_of_length_le (by rw [← HN.out]; omega)]; rfl
        clear hlt
        go_wp2_with fail
        go_ret
        exact ⟨by rw [HE.out] <;> rfl, HB.out⟩
end Go.Proofs.YtjbcbejedaeedaaGreatDoor
/-! The reference of chapter 8: Parse: walked. -/
namespace Go.Proofs.YtjbcbejedaeedaaGreatDoor
open Go.RowKit
open PlainAid (bt)

/-- what is still to be read says -/
def resW (st : TSt) (i : Nat) (u : Bs) : Except (Nat × Int) TSt := if u = [] then .ok st else goW st i (piecesW u)
theorem lineOf_nil : lineOf [] = [] := by decide
theorem resW_start (st : TSt) (u : Bs) : resW st 0 u = goW st 0 (piecesW u) := by
  unfold resW
  split
  · rename_i h
    subst h
    show _ = goW st 0 [[]]
    rw [goW, if_pos lineOf_nil]; rfl
  · rfl
theorem resW_step {u : Bs} (hu : u ≠ []) (st : TSt) (i : Nat) : resW st i u = if lineOf (Lib.cut u [10]).1 = [] then resW st (i + 1) (Lib.cut u [10]).2.1 else
    match stepW st (lineOf (Lib.cut u [10]).1) with | .error e => .error (i + 1, e) | .ok st' => resW st' (i + 1) (Lib.cut u [10]).2.1 := by
  have key : ∀ st j, goW st j (if (Lib.cut u [10]).2.2 then piecesW (Lib.cut u [10]).2.1 else []) = resW st j (Lib.cut u [10]).2.1 := by
    intro st j
    unfold resW
    rcases ib_cases u 10 with ⟨_, h⟩ | ⟨k, _, h1, h2⟩
    · rw [cut_none u 10 h]; rfl
    · rw [cut_at u 10 k h1 h2]
      simp only [if_true]
      split
      · rename_i h
        rw [h]
        show goW st j [[]] = _
        rw [goW, if_pos lineOf_nil]; rfl
      · rfl
  conv => lhs; rw [resW, if_neg hu, pieces_cut u, goW]
  rw [key]
  by_cases h : lineOf (Lib.cut u [10]).1 = []
  · rw [if_pos h, if_pos h]
  · rw [if_neg h, if_neg h]
    cases stepW st (lineOf (Lib.cut u [10]).1) with
    | error e => rfl
    | ok s => exact key s (i + 1)
theorem cut_shrinks {u : Bs} (hu : u ≠ []) : (Lib.cut u [10]).2.1.length < u.length := by
  have hl := List.length_pos_iff.2 hu
  rcases ib_cases u 10 with ⟨_, h⟩ | ⟨k, _, h1, h2⟩
  · rw [cut_none u 10 h]; exact hl
  · rw [cut_at u 10 k h1 h2]
    show (u.drop (k + 1)).length < _
    rw [List.length_drop]; omega
theorem suf13 (l : Bs) : Lib.hasSuffix l [13] = decide (l.getLast? = some 13) := by
  unfold Lib.hasSuffix
  rw [Bool.eq_iff_iff, List.isSuffixOf_iff_suffix, decide_eq_true_eq]
  constructor
  · rintro ⟨t, rfl⟩; simp
  · intro h
    obtain ⟨t, rfl⟩ := List.getLast?_eq_some_iff.1 h
    exact ⟨t, rfl⟩
theorem suf_yes {l : Bs} {z : Nat} (hz : z + 1 = l.length) (h : l[z]? = some 13) : Lib.trimSuffix l [13] = l.take z := by
  unfold Lib.trimSuffix
  rw [suf13, List.getLast?_eq_getElem?, show l.length - 1 = z from by omega, h]
  simp only [decide_true, if_true]
  congr 1
  simp; omega
theorem suf_no {l : Bs} {z : Nat} {b : UInt8} (hz : z + 1 = l.length) (h : l[z]? = some b) (hb : b ≠ 13) : Lib.trimSuffix l [13] = l := by
  unfold Lib.trimSuffix
  rw [suf13, List.getLast?_eq_getElem?, show l.length - 1 = z from by omega, h, if_neg]
  simpa using hb
theorem suf_nil : Lib.trimSuffix [] [13] = [] := by decide
theorem SrcIs.put3 {V : World} {r : Nat} {ver : Bs} {rv ev : Value} (h : SrcIs V r ver rv ev) (a : Bs) (b c : Value) : SrcIs (((V.setCell ⟨r, 0, none⟩ (.string (mkB a))).setCell ⟨r, 1, none⟩ b).setCell ⟨r, 2, none⟩ c) r a b c := by
  unfold SrcIs at *
  unfold World.setCell
  simp [Array.getElem?_modify, h]
theorem below_put3 {n r : Nat} {w V : World} (hr : n ≤ r) (hb : Below n w V) (a b c : Value) : Below n w (((V.setCell ⟨r, 0, none⟩ a).setCell ⟨r, 1, none⟩ b).setCell ⟨r, 2, none⟩ c) :=
  ((hb.setCell (p := ⟨r, 0, none⟩) hr a).setCell (p := ⟨r, 1, none⟩) hr b).setCell (p := ⟨r, 2, none⟩) hr c
theorem rp_below {r pb : Nat} {w W1 V : World} (hb : Below r w W1) (hp : pb = r + 1) (hz : W1.heap.size = r + 2) (h : Only (fun k => k = pb ∨ pb + 1 ≤ k) W1 V) : Below r w V :=
  ⟨h.os.trans hb.os, h.tape.trans hb.tape, h.output.trans hb.output, Nat.le_trans hb.size h.size, fun k hk => (h.block k (by omega) (by omega)).trans (hb.block k hk)⟩
theorem rp_src {r pb : Nat} {W1 V : World} {ver : Bs} {rv ev : Value} (hp : pb = r + 1) (hz : W1.heap.size = r + 2) (h0 : SrcIs W1 r ver rv ev) (h : Only (fun k => k = pb ∨ pb + 1 ≤ k) W1 V) : SrcIs V r ver rv ev :=
  (h.block r (by omega) (by omega)).trans h0
theorem entsNil (R : Nat → Prop) (w : World) : EntsIn R w (.slice none 0 0) [] := ⟨none, 0, rfl, fun i e h => by simp at h⟩
/-- between two rounds -/
def RpRel (L : Bs) (N : Nat) (W1 : World) (pb : Nat) (u : ByteArray) (i : Nat) (st : TSt) (W : World) : Prop :=
  goW (none, [], []) 0 (piecesW L) = resW st i u.data.toList ∧ i + u.size ≤ N ∧ StOk i st ∧ RSt (pb + 1) W pb (srtS st) ∧ Only (fun k => k = pb ∨ pb + 1 ≤ k) W1 W
theorem trimOf_le {p : Bs} : (lineOf p).length ≤ p.length := lineOf_le p
theorem lineOf_trim (p : Bs) : trimW (lineOf p) = lineOf p := trim_trim _
set_option maxHeartbeats 8000000 in
set_option maxRecDepth 100000 in
theorem rparse_any (s : ByteArray) (w : World) (hs : s.size ≤ 1000000) :
    Calls Tryz.prog 8 #[.string s] w (ParseEnd s.data.toList w) := by
  have HS := Lib.hid hs
  have g0 : ¬ (s.size : Int) > 4194304 := by omega
  have g0' : decide ((s.size : Int) > 4194304) = false := decide_eq_false g0
  obtain ⟨W1, hW⟩ : ∃ W1, W1 = (w.alloc (.cells #[.string (mkB []), .slice none 0 0, .slice none 0 0] 26)).alloc (.cells #[.string (mkB []), .slice none 0 0, .slice none 0 0, .bool false] 66) := ⟨_, rfl⟩
  have hb : Below w.heap.size w W1 := by rw [hW]; exact ((Below.refl _ w).alloc (Nat.le_refl _) _).alloc (by simp) _
  have d0 : SrcIs W1 w.heap.size [] (.slice none 0 0) (.slice none 0 0) := by unfold SrcIs; rw [hW, Below.heap_alloc _ _ _ (by simp)]; exact World.alloc_heap_new w _
  have d1 : Rd8 W1 (w.heap.size + 1) [] (.slice none 0 0) (.slice none 0 0) false := by
    have := World.alloc_heap_new (w.alloc (.cells #[.string (mkB []), .slice none 0 0, .slice none 0 0] 26)) (.cells #[.string (mkB []), .slice none 0 0, .slice none 0 0, .bool false] 66)
    rw [World.size_alloc] at this; unfold Rd8; rw [hW]; exact this
  have hz : W1.heap.size = w.heap.size + 2 := by rw [hW]; simp
  have hr1 : RSt (w.heap.size + 1 + 1) W1 (w.heap.size + 1) (srtS (none, [], [])) := ⟨_, _, [], d1, World.ownsRow_nil _ _ _ _, World.ownsRow_nil _ _ _ _, ⟨rfl, fun i x cu hx => by cases hx⟩, List.Pairwise.nil, Nat.zero_le _, Nat.zero_le _, fun x hx => by cases hx⟩
  have HB := Lib.hid hb
  have HD0 := Lib.hid d0
  have HR1 := Lib.hid hr1
  have HZ := Lib.hid hz
  have hmk : (mkB [] : ByteArray) = { data := #[] } := rfl
  rw [hmk] at hW
  clear hb d0 d1 hr1 hz hs hmk
  obtain ⟨r, hr⟩ : ∃ r, r = w.heap.size := ⟨_, rfl⟩
  have HRR := Lib.hid hr
  go_enter Tryz.func8, Tryz.ntmps8
  go_wp2_with fail
  rw [← hW]
  rw [← hr] at HB HD0 HR1 HZ ⊢
  obtain ⟨pb, hpb⟩ : ∃ pb, pb = r + 1 := ⟨_, rfl⟩
  rw [← hpb] at HR1 ⊢
  have HPB := Lib.hid hpb
  clear hW hr hpb
  go_loopw [0, 6, 7, 8, 9, 10] (fun sv nv _ _ _ _ wr => ∃ (u : ByteArray) (i : Nat) (st : TSt), sv = .string u ∧ nv = .int .i64 ((i : Int) + 1) ∧ RpRel s.data.toList s.size W1 pb u i st wr) (fun sv _ _ _ _ _ _ => strLen sv)
  case atStart => exact ⟨s, 0, (none, [], []), rfl, rfl, (resW_start _ _).symm, by omega, ⟨(fun x hx => by cases hx), Nat.zero_le _, Nat.zero_le _, (fun x hx => by cases hx)⟩, HR1.out, Only.refl _ _⟩
  case round =>
    obtain ⟨u, i, st, rfl, rfl, hrl⟩ := hrel
    have HRL := Lib.hid hrl
    clear hrl
    by_cases hu : u.data.toList = []
    · have hemp : u.toList.isEmpty = true := by rw [Lib.toList_data, hu]; rfl
      have HF : Hid (goW (none, [], []) 0 (piecesW s.data.toList) = .ok st) := by
        show _ = _
        rw [HRL.out.1, hu]; rfl
      have HII : Hid (i ≤ s.size) := by show _ ≤ _; have := HRL.out.2.1; omega
      obtain ⟨rv, ev, vs, h3, h4, h5, h6, h7, h8, h9, h10⟩ := HRL.out.2.2.2.1
      have HO := Lib.hid HRL.out.2.2.2.2
      obtain ⟨c0, c1, c2, c3, fz, hpl⟩ := h3.cells
      obtain ⟨vo, rs, es⟩ := st
      have HRI : Hid (RngsIn (Cb (pb + 1) wr) wr rv (srtR rs)) := rngsIn_row h4
      have HEI : Hid (EntsIn (Cb (pb + 1) wr) wr ev es) := entsIn_row h5 h6
      have HSZ := Lib.hid HRL.out.2.2.1
      obtain ⟨rp, rc, rfl⟩ := row_slice h4
      obtain ⟨ep, ec, rfl⟩ := row_slice h5
      clear h3 h4 h5 h6 h7 h8 h9 h10 hu HRL fz
      simp only [srtS] at c0 c1 c2 c3 HRI HEI
      cases vo with
      | none =>
        have HPW : Hid (parseW s.data.toList = (tab0, 0, 114)) := by
          show endW _ = _
          rw [HF.out]; rfl
        simp only [Option.isSome_none] at c3
        have hsv := rp_src HPB.out HZ.out HD0.out HO.out
        have hbv := rp_below HB.out HPB.out HZ.out HO.out
        obtain ⟨k0, k1, k2, kf, kl⟩ := hsv.cells
        have kf0 := kf 0
        have kf1 := kf 1
        have kf2 := kf 2
        have hpe : SrcIs (((wr.setCell ⟨r, 0, none⟩ (.string { data := #[] })).setCell ⟨r, 1, none⟩ (.slice none 0 0)).setCell ⟨r, 2, none⟩ (.slice none 0 0)) r [] (.slice none 0 0) (.slice none 0 0) := hsv.put3 [] _ _
        have hbe := below_put3 (Nat.le_refl r) hbv (.string { data := #[] }) (.slice none 0 0) (.slice none 0 0)
        have HPE := Lib.hid (And.intro hpe hbe)
        clear hsv hbv kf hpe hbe
        go_wp2_with fail
        generalize (((wr.setCell ⟨r, 0, none⟩ (.string { data := #[] })).setCell ⟨r, 1, none⟩ (.slice none 0 0)).setCell ⟨r, 2, none⟩ (.slice none 0 0)) = WF at *
        obtain ⟨q0, q1, q2, _, _⟩ := HPE.out.1.cells
        refine bodyPost_ret (v := .tuple #[.agg #[.string (mkB []), .slice none 0 0, .slice none 0 0], .int .i64 0, .int .i64 114]) (by simp [results, Tryz.results8, go_sem, q0, q1, q2]) rfl ?_
        refine ⟨by rw [← HRR.out]; exact HPE.out.2, .slice none 0 0, .slice none 0 0, by rw [HPW.out] <;> rfl, by rw [HPW.out]; exact RngsIn.nil _ _, by rw [HPW.out]; exact entsNil _ _⟩
      | some v =>
        simp only [Option.isSome_some] at c3
        have hil : rs.length ≤ 1000000 := by have h1 := HSZ.out.2.1; have h2 : i ≤ s.size := HII.out; have := HS.out; simp only at h1; omega
        have hra := rRanges_any _ (srtR rs) _ wr HRI.out (by rw [srtR_len]; omega)
        have HRA := Lib.hid hra
        clear hra hil
        by_cases hc : rngC (srtR rs) = 0
        · have HPW : Hid (parseW s.data.toList = ((v, srtR rs, es), 0, 0)) := by
            show endW _ = _
            rw [HF.out]
            show (if rngC (srtR rs) = 0 then _ else _) = _
            rw [if_pos hc]
          rw [hc] at HRA
          clear hc
          go_wp2_with fail
          refine HRA.out.mono ?_
          rintro e w1 ⟨rfl, hb1⟩
          have HO1 := Lib.hid (HO.out.below' hb1)
          have HRI1 := Lib.hid (HRI.out.kept (Kept.below hb1))
          have HEI1 := Lib.hid (HEI.out.kept (Kept.below hb1))
          have e0 := (hb1.cell (p := ⟨pb, 0, none⟩) hpl).trans c0
          have e1 := (hb1.cell (p := ⟨pb, 1, none⟩) hpl).trans c1
          have e2 := (hb1.cell (p := ⟨pb, 2, none⟩) hpl).trans c2
          have hpl1 := Nat.lt_of_lt_of_le hpl hb1.size
          have HCB : Hid (∀ b, Cb (pb + 1) wr b → r < b) := fun b hb => by have := hb.1; have := HPB.out; omega
          have hsv := rp_src HPB.out HZ.out HD0.out HO1.out
          have hbv := rp_below HB.out HPB.out HZ.out HO1.out
          obtain ⟨k0, k1, k2, kf, kl⟩ := hsv.cells
          have kf0 := kf 0
          have kf1 := kf 1
          have kf2 := kf 2
          simp only [Option.getD_some] at e0
          have hpe : SrcIs (((w1.setCell ⟨r, 0, none⟩ (.string (mkB v))).setCell ⟨r, 1, none⟩ (.slice rp (srtR rs).length rc)).setCell ⟨r, 2, none⟩ (.slice ep es.length ec)) r v (.slice rp (srtR rs).length rc) (.slice ep es.length ec) := hsv.put3 v _ _
          have hbe := below_put3 (Nat.le_refl r) hbv (.string (mkB v)) (.slice rp (srtR rs).length rc) (.slice ep es.length ec)
          have hon : Only (fun k => k = r) w1 (((w1.setCell ⟨r, 0, none⟩ (.string (mkB v))).setCell ⟨r, 1, none⟩ (.slice rp (srtR rs).length rc)).setCell ⟨r, 2, none⟩ (.slice ep es.length ec)) := (((Only.refl (fun k => k = r) w1).setCell (p := ⟨r, 0, none⟩) rfl _).setCell (p := ⟨r, 1, none⟩) rfl _).setCell (p := ⟨r, 2, none⟩) rfl _
          have HPE := Lib.hid (And.intro hpe (And.intro hbe hon))
          clear hsv hbv kf hpe hbe hon hb1 c0 c1 c2 c3 hpl
          go_wp2_with fail
          generalize (((w1.setCell ⟨r, 0, none⟩ (.string (mkB v))).setCell ⟨r, 1, none⟩ (.slice rp (srtR rs).length rc)).setCell ⟨r, 2, none⟩ (.slice ep es.length ec)) = WF at *
          obtain ⟨q0, q1, q2, _, _⟩ := HPE.out.1.cells
          refine bodyPost_ret (v := .tuple #[.agg #[.string (mkB v), .slice rp (srtR rs).length rc, .slice ep es.length ec], .int .i64 0, .int .i64 0]) (by simp [results, Tryz.results8, go_sem, q0, q1, q2]) rfl ?_
          refine ⟨by rw [← HRR.out]; exact HPE.out.2.1, _, _, by rw [HPW.out] <;> rfl, ?_, ?_⟩
          · rw [HPW.out]
            exact (HRI1.out.kept (only_keptT HPE.out.2.2 (fun k hk he => by have := HCB.out k hk; omega))).mono (fun b hb _ => by have := HCB.out b hb; have := HRR.out; omega)
          · rw [HPW.out]
            exact (HEI1.out.kept (only_keptT HPE.out.2.2 (fun k hk he => by have := HCB.out k hk; omega))).monoL (fun b hb _ => by have := HCB.out b hb; have := HRR.out; omega)
        · have HPW : Hid (parseW s.data.toList = (tab0, 0, rngC (srtR rs))) := by
            show endW _ = _
            rw [HF.out]
            show (if rngC (srtR rs) = 0 then _ else _) = _
            rw [if_neg hc]
          obtain ⟨z, hz⟩ : ∃ z, z = rngC (srtR rs) := ⟨_, rfl⟩
          rw [← hz] at HRA HPW hc
          have z1 : (z == 0) = false := beq_eq_false_iff_ne.2 hc
          have z2 : (z != 0) = true := bne_iff_ne.2 hc
          clear hc hz
          go_wp2_with fail
          refine HRA.out.mono ?_
          rintro e w1 ⟨rfl, hb1⟩
          have HO1 := Lib.hid (HO.out.below' hb1)
          clear hb1 c0 c1 c2 c3 hpl
          have hsv := rp_src HPB.out HZ.out HD0.out HO1.out
          have hbv := rp_below HB.out HPB.out HZ.out HO1.out
          obtain ⟨k0, k1, k2, kf, kl⟩ := hsv.cells
          have kf0 := kf 0
          have kf1 := kf 1
          have kf2 := kf 2
          have hpe : SrcIs (((w1.setCell ⟨r, 0, none⟩ (.string { data := #[] })).setCell ⟨r, 1, none⟩ (.slice none 0 0)).setCell ⟨r, 2, none⟩ (.slice none 0 0)) r [] (.slice none 0 0) (.slice none 0 0) := hsv.put3 [] _ _
          have hbe := below_put3 (Nat.le_refl r) hbv (.string { data := #[] }) (.slice none 0 0) (.slice none 0 0)
          have HPE := Lib.hid (And.intro hpe hbe)
          clear hsv hbv kf hpe hbe
          go_wp2_with fail
          generalize (((w1.setCell ⟨r, 0, none⟩ (.string { data := #[] })).setCell ⟨r, 1, none⟩ (.slice none 0 0)).setCell ⟨r, 2, none⟩ (.slice none 0 0)) = WF at *
          obtain ⟨q0, q1, q2, _, _⟩ := HPE.out.1.cells
          refine bodyPost_ret (v := .tuple #[.agg #[.string (mkB []), .slice none 0 0, .slice none 0 0], .int .i64 0, .int .i64 z]) (by simp [results, Tryz.results8, go_sem, q0, q1, q2]) rfl ?_
          refine ⟨by rw [← HRR.out]; exact HPE.out.2, .slice none 0 0, .slice none 0 0, by rw [HPW.out] <;> rfl, by rw [HPW.out]; exact RngsIn.nil _ _, by rw [HPW.out]; exact entsNil _ _⟩
    · have hemp : u.toList.isEmpty = false := by
        rw [Lib.toList_data]; cases h : u.data.toList with
        | nil => exact absurd h hu
        | cons _ _ => rfl
      have HST := Lib.hid (resW_step hu st i)
      have hsh := cut_shrinks hu
      rw [size_data] at hsh
      have hcl := (cut_le u.data.toList [10]).1
      rw [size_data] at hcl
      have hul : u.size ≤ 1000000 := by have := HRL.out.2.1; have := HS.out; omega
      have hil : i ≤ 1000000 := by have := HRL.out.2.1; have := HS.out; omega
      have HCU := Lib.hid (fun w => rcut_any u 10 10 rfl w (by omega))
      obtain ⟨x, hxe⟩ : ∃ x, x = lineOf (Lib.cut u.data.toList [10]).1 := ⟨_, rfl⟩
      rw [← hxe] at HST
      generalize Lib.cut u.data.toList [10] = c at *
      obtain ⟨p, q, f⟩ := c
      simp only at HST hsh hcl HCU hxe
      have HSH := Lib.hid hsh
      have HLO : Hid (x = trimW (Lib.cut (Lib.trimSuffix p [13]) [35]).1) := hxe
      have HXT : Hid (trimW x = x) := by show _ = _; rw [hxe]; exact lineOf_trim p
      have HXL : Hid (x.length ≤ 1000000) := by show _ ≤ _; rw [hxe]; have := lineOf_le p; omega
      have hpl : p.length ≤ 1000000 := by omega
      clear hu hsh hxe hcl
      go_wp2_with fail
      refine (HCU.out _).mono ?_
      rintro e w1 ⟨rfl, hb1⟩
      have HO1 := Lib.hid (HRL.out.2.2.2.2.below' hb1)
      have HRS1 := Lib.hid (HRL.out.2.2.2.1.below hb1)
      clear hb1 HCU hemp
      obtain ⟨v, hv⟩ : ∃ v, v = mkB p := ⟨_, rfl⟩
      have hvd : v.data.toList = p := by rw [hv, data_mkB]
      have hvs : v.size = p.length := by rw [hv, size_mkB]
      rw [← hv]
      have hbt := PlainAid.get_bt v
      clear hv
      have hvl : v.size ≤ 1000000 := by omega
      by_cases hp0 : v.size = 0
      · have g1 : ¬ (v.size : Int) > 0 := by omega
        have HVD : Hid (v.data.toList = Lib.trimSuffix p [13]) := by
          show _ = _
          have hpn : p = [] := List.eq_nil_of_length_eq_zero (by omega)
          rw [hvd, hpn, suf_nil]
        have HVL : Hid (v.size ≤ 1000000) := by show _ ≤ _; omega
        clear hp0 hvd hvs hpl
        have HC2 := Lib.hid (fun w => rcut_any v 35 35 rfl w (by have := HVL.out; omega))
        rw [HVD.out] at HC2
        have HTR := Lib.hid (fun w => rtrim_any (mkB (Lib.cut (Lib.trimSuffix p [13]) [35]).1) w (by rw [size_mkB]; have h1 := (cut_le (Lib.trimSuffix p [13]) [35]).1; rw [← HVD.out, size_data] at h1; rw [← HVD.out]; have := HVL.out; omega))
        rw [data_mkB, ← HLO.out] at HTR
        go_wp2_with fail
        refine (HC2.out _).mono ?_
        rintro e w2 ⟨rfl, hb2⟩
        have HO2 := Lib.hid (HO1.out.below' hb2)
        have HRS2 := Lib.hid (HRS1.out.below hb2)
        clear hb2 HC2
        by_cases hx : x = []
        · have hemp2 : (mkB x).toList.isEmpty = true := by rw [Lib.toList_data, data_mkB, hx]; rfl
          have HRE : Hid (resW st i u.data.toList = resW st (i + 1) q) := by show _ = _; rw [HST.out, if_pos hx]
          clear hx
          go_wp2_with (go_at_call 25; with_reducible refine (HTR.out _).mono ?_; rintro e w' ⟨rfl, rfl⟩)
          go_roundw
          case rel => exact ⟨mkB q, i + 1, st, rfl, by go_num, by rw [data_mkB]; exact HRL.out.1.trans HRE.out, by rw [size_mkB]; have := HRL.out.2.1; have := HSH.out; omega, HRL.out.2.2.1.more (Nat.le_succ _), HRS2.out, HO2.out⟩
          case measure => (show (mkB q).size < u.size; rw [size_mkB]; exact HSH.out)
        · have hemp2 : (mkB x).toList.isEmpty = false := empty_mkB x hx
          have HST2 : Hid (resW st i u.data.toList = match stepW st x with | .error e => .error (i + 1, e) | .ok st' => resW st' (i + 1) q) := by show _ = _; rw [HST.out, if_neg hx]
          have hln := rline8_any (pb + 1) pb (srtS st) (mkB x) w2 (by rw [size_mkB]; have := HXL.out; omega) HRS2.out (by have h1 := HO2.out.size; have h2 := HZ.out; have h3 := HPB.out; omega) (Nat.lt_succ_self _) (by show (srtR st.2.1).length < _; rw [srtR_len]; have := HRL.out.2.2.1.2.1; omega)
          rw [data_mkB, line_same st x HXT.out hx HRL.out.2.2.1.2.2.1] at hln
          have HLN := Lib.hid hln
          clear hln hx
          cases hsw : stepW st x with
          | error z =>
            have hz0 := stepW_ne hsw
            have z1 : (z == 0) = false := beq_eq_false_iff_ne.2 hz0
            have z2 : (z != 0) = true := bne_iff_ne.2 hz0
            have HPW : Hid (parseW s.data.toList = (tab0, i + 1, z)) := by
              show endW _ = _
              rw [HRL.out.1, HST2.out, hsw]; rfl
            rw [hsw] at HLN
            simp only at HLN
            clear hsw hz0
            go_wp2_with (go_at_call 25; with_reducible refine (HTR.out _).mono ?_; rintro e w' ⟨rfl, rfl⟩)
            refine HLN.out.mono ?_
            rintro e w3 ⟨ho3, ⟨st', h2, _⟩ | ⟨z', h2, rfl⟩⟩
            · cases h2
            · cases h2
              have HO3 := Lib.hid (HO2.out.trans ho3)
              clear ho3
              have hsv := rp_src HPB.out HZ.out HD0.out HO3.out
              have hbv := rp_below HB.out HPB.out HZ.out HO3.out
              obtain ⟨k0, k1, k2, kf, kl⟩ := hsv.cells
              have kf0 := kf 0
              have kf1 := kf 1
              have kf2 := kf 2
              have hpe : SrcIs (((w3.setCell ⟨r, 0, none⟩ (.string { data := #[] })).setCell ⟨r, 1, none⟩ (.slice none 0 0)).setCell ⟨r, 2, none⟩ (.slice none 0 0)) r [] (.slice none 0 0) (.slice none 0 0) := hsv.put3 [] _ _
              have hbe := below_put3 (Nat.le_refl r) hbv (.string { data := #[] }) (.slice none 0 0) (.slice none 0 0)
              have HPE := Lib.hid (And.intro hpe hbe)
              clear hsv hbv kf hpe hbe
              go_wp2_with fail
              generalize (((w3.setCell ⟨r, 0, none⟩ (.string { data := #[] })).setCell ⟨r, 1, none⟩ (.slice none 0 0)).setCell ⟨r, 2, none⟩ (.slice none 0 0)) = WF at *
              obtain ⟨q0, q1, q2, _, _⟩ := HPE.out.1.cells
              refine bodyPost_ret (v := .tuple #[.agg #[.string (mkB []), .slice none 0 0, .slice none 0 0], .int .i64 ((i : Int) + 1), .int .i64 z]) (by simp [results, Tryz.results8, go_sem, q0, q1, q2]) rfl ?_
              refine ⟨by rw [← HRR.out]; exact HPE.out.2, .slice none 0 0, .slice none 0 0, by rw [HPW.out] <;> rfl, by rw [HPW.out]; exact RngsIn.nil _ _, by rw [HPW.out]; exact entsNil _ _⟩
          | ok st' =>
            have HOK := Lib.hid (stepW_ok HRL.out.2.2.1 hsw)
            have HRE : Hid (resW st i u.data.toList = resW st' (i + 1) q) := by show _ = _; rw [HST2.out, hsw]
            rw [hsw] at HLN
            simp only at HLN
            clear hsw
            go_wp2_with (go_at_call 25; with_reducible refine (HTR.out _).mono ?_; rintro e w' ⟨rfl, rfl⟩)
            refine HLN.out.mono ?_
            rintro e w3 ⟨ho3, ⟨st2, h2, rfl, hrs3⟩ | ⟨z', h2, _⟩⟩
            · cases h2
              have HO3 := Lib.hid (HO2.out.trans ho3)
              have HRS3 := Lib.hid hrs3
              clear ho3 hrs3
              go_wp2_with fail
              go_roundw
              case rel => exact ⟨mkB q, i + 1, st', rfl, by go_num, by rw [data_mkB]; exact HRL.out.1.trans HRE.out, by rw [size_mkB]; have := HRL.out.2.1; have := HSH.out; omega, HOK.out, HRS3.out, HO3.out⟩
              case measure => (show (mkB q).size < u.size; rw [size_mkB]; exact HSH.out)
            · cases h2
      · have g1 : (v.size : Int) > 0 := by omega
        obtain ⟨z, hz⟩ : ∃ z, z = v.size - 1 := ⟨_, rfl⟩
        have hz1 : (v.size : Int) - 1 = (z : Int) := by omega
        have hz2 : z < v.size := by omega
        obtain ⟨b, hc1, hc2⟩ := at_bt v z hz2
        have b0 := PlainAid.bt_nonneg v z
        have b1 := PlainAid.bt_le v z
        by_cases d0 : bt v z = 13
        · have g2 : (bt v z == 13) = true := by rw [d0]; rfl
          have hb13 : b = 13 := UInt8.toNat_inj.1 (by show b.toNat = 13; omega)
          have HVD : Hid ((v.extract 0 z).data.toList = Lib.trimSuffix p [13]) := by
            show _ = _
            rw [extract_take, data_mkB, hvd, suf_yes (z := z) (by omega) (by rw [← hvd, hc1, hb13])]
          have HVL : Hid ((v.extract 0 z).size ≤ 1000000) := by show _ ≤ _; rw [← size_data, extract_take, data_mkB, List.length_take, hvd]; omega
          clear hp0 hvd hvs hpl hc1 hc2 d0 hb13 hz
          have HC2 := Lib.hid (fun w => rcut_any (v.extract 0 z) 35 35 rfl w (by have := HVL.out; omega))
          rw [HVD.out] at HC2
          have HTR := Lib.hid (fun w => rtrim_any (mkB (Lib.cut (Lib.trimSuffix p [13]) [35]).1) w (by rw [size_mkB]; have h1 := (cut_le (Lib.trimSuffix p [13]) [35]).1; rw [← HVD.out, size_data] at h1; rw [← HVD.out]; have := HVL.out; omega))
          rw [data_mkB, ← HLO.out] at HTR
          go_wp2_with fail
          refine (HC2.out _).mono ?_
          rintro e w2 ⟨rfl, hb2⟩
          have HO2 := Lib.hid (HO1.out.below' hb2)
          have HRS2 := Lib.hid (HRS1.out.below hb2)
          clear hb2 HC2
          by_cases hx : x = []
          · have hemp2 : (mkB x).toList.isEmpty = true := by rw [Lib.toList_data, data_mkB, hx]; rfl
            have HRE : Hid (resW st i u.data.toList = resW st (i + 1) q) := by show _ = _; rw [HST.out, if_pos hx]
            clear hx
            go_wp2_with (go_at_call 25; with_reducible refine (HTR.out _).mono ?_; rintro e w' ⟨rfl, rfl⟩)
            go_roundw
            case rel => exact ⟨mkB q, i + 1, st, rfl, by go_num, by rw [data_mkB]; exact HRL.out.1.trans HRE.out, by rw [size_mkB]; have := HRL.out.2.1; have := HSH.out; omega, HRL.out.2.2.1.more (Nat.le_succ _), HRS2.out, HO2.out⟩
            case measure => (show (mkB q).size < u.size; rw [size_mkB]; exact HSH.out)
          · have hemp2 : (mkB x).toList.isEmpty = false := empty_mkB x hx
            have HST2 : Hid (resW st i u.data.toList = match stepW st x with | .error e => .error (i + 1, e) | .ok st' => resW st' (i + 1) q) := by show _ = _; rw [HST.out, if_neg hx]
            have hln := rline8_any (pb + 1) pb (srtS st) (mkB x) w2 (by rw [size_mkB]; have := HXL.out; omega) HRS2.out (by have h1 := HO2.out.size; have h2 := HZ.out; have h3 := HPB.out; omega) (Nat.lt_succ_self _) (by show (srtR st.2.1).length < _; rw [srtR_len]; have := HRL.out.2.2.1.2.1; omega)
            rw [data_mkB, line_same st x HXT.out hx HRL.out.2.2.1.2.2.1] at hln
            have HLN := Lib.hid hln
            clear hln hx
            cases hsw : stepW st x with
            | error z =>
              have hz0 := stepW_ne hsw
              have z1 : (z == 0) = false := beq_eq_false_iff_ne.2 hz0
              have z2 : (z != 0) = true := bne_iff_ne.2 hz0
              have HPW : Hid (parseW s.data.toList = (tab0, i + 1, z)) := by
                show endW _ = _
                rw [HRL.out.1, HST2.out, hsw]; rfl
              rw [hsw] at HLN
              simp only at HLN
              clear hsw hz0
              go_wp2_with (go_at_call 25; with_reducible refine (HTR.out _).mono ?_; rintro e w' ⟨rfl, rfl⟩)
              refine HLN.out.mono ?_
              rintro e w3 ⟨ho3, ⟨st', h2, _⟩ | ⟨z', h2, rfl⟩⟩
              · cases h2
              · cases h2
                have HO3 := Lib.hid (HO2.out.trans ho3)
                clear ho3
                have hsv := rp_src HPB.out HZ.out HD0.out HO3.out
                have hbv := rp_below HB.out HPB.out HZ.out HO3.out
                obtain ⟨k0, k1, k2, kf, kl⟩ := hsv.cells
                have kf0 := kf 0
                have kf1 := kf 1
                have kf2 := kf 2
                have hpe : SrcIs (((w3.setCell ⟨r, 0, none⟩ (.string { data := #[] })).setCell ⟨r, 1, none⟩ (.slice none 0 0)).setCell ⟨r, 2, none⟩ (.slice none 0 0)) r [] (.slice none 0 0) (.slice none 0 0) := hsv.put3 [] _ _
                have hbe := below_put3 (Nat.le_refl r) hbv (.string { data := #[] }) (.slice none 0 0) (.slice none 0 0)
                have HPE := Lib.hid (And.intro hpe hbe)
                clear hsv hbv kf hpe hbe
                go_wp2_with fail
                generalize (((w3.setCell ⟨r, 0, none⟩ (.string { data := #[] })).setCell ⟨r, 1, none⟩ (.slice none 0 0)).setCell ⟨r, 2, none⟩ (.slice none 0 0)) = WF at *
                obtain ⟨q0, q1, q2, _, _⟩ := HPE.out.1.cells
                refine bodyPost_ret (v := .tuple #[.agg #[.string (mkB []), .slice none 0 0, .slice none 0 0], .int .i64 ((i : Int) + 1), .int .i64 z]) (by simp [results, Tryz.results8, go_sem, q0, q1, q2]) rfl ?_
                refine ⟨by rw [← HRR.out]; exact HPE.out.2, .slice none 0 0, .slice none 0 0, by rw [HPW.out] <;> rfl, by rw [HPW.out]; exact RngsIn.nil _ _, by rw [HPW.out]; exact entsNil _ _⟩
            | ok st' =>
              have HOK := Lib.hid (stepW_ok HRL.out.2.2.1 hsw)
              have HRE : Hid (resW st i u.data.toList = resW st' (i + 1) q) := by show _ = _; rw [HST2.out, hsw]
              rw [hsw] at HLN
              simp only at HLN
              clear hsw
              go_wp2_with (go_at_call 25; with_reducible refine (HTR.out _).mono ?_; rintro e w' ⟨rfl, rfl⟩)
              refine HLN.out.mono ?_
              rintro e w3 ⟨ho3, ⟨st2, h2, rfl, hrs3⟩ | ⟨z', h2, _⟩⟩
              · cases h2
                have HO3 := Lib.hid (HO2.out.trans ho3)
                have HRS3 := Lib.hid hrs3
                clear ho3 hrs3
                go_wp2_with fail
                go_roundw
                case rel => exact ⟨mkB q, i + 1, st', rfl, by go_num, by rw [data_mkB]; exact HRL.out.1.trans HRE.out, by rw [size_mkB]; have := HRL.out.2.1; have := HSH.out; omega, HOK.out, HRS3.out, HO3.out⟩
                case measure => (show (mkB q).size < u.size; rw [size_mkB]; exact HSH.out)
              · cases h2
        · have g2 : (bt v z == 13) = false := beq_eq_false_iff_ne.2 d0
          have HVD : Hid (v.data.toList = Lib.trimSuffix p [13]) := by
            show _ = _
            rw [suf_no (z := z) (b := b) (by omega) (by rw [← hvd]; exact hc1) (fun e => d0 (by rw [hc2, e]; rfl)), hvd]
          have HVL : Hid (v.size ≤ 1000000) := by show _ ≤ _; omega
          clear hp0 hvd hvs hpl hc1 hc2 d0 hz
          have HC2 := Lib.hid (fun w => rcut_any v 35 35 rfl w (by have := HVL.out; omega))
          rw [HVD.out] at HC2
          have HTR := Lib.hid (fun w => rtrim_any (mkB (Lib.cut (Lib.trimSuffix p [13]) [35]).1) w (by rw [size_mkB]; have h1 := (cut_le (Lib.trimSuffix p [13]) [35]).1; rw [← HVD.out, size_data] at h1; rw [← HVD.out]; have := HVL.out; omega))
          rw [data_mkB, ← HLO.out] at HTR
          go_wp2_with fail
          refine (HC2.out _).mono ?_
          rintro e w2 ⟨rfl, hb2⟩
          have HO2 := Lib.hid (HO1.out.below' hb2)
          have HRS2 := Lib.hid (HRS1.out.below hb2)
          clear hb2 HC2
          by_cases hx : x = []
          · have hemp2 : (mkB x).toList.isEmpty = true := by rw [Lib.toList_data, data_mkB, hx]; rfl
            have HRE : Hid (resW st i u.data.toList = resW st (i + 1) q) := by show _ = _; rw [HST.out, if_pos hx]
            clear hx
            go_wp2_with (go_at_call 25; with_reducible refine (HTR.out _).mono ?_; rintro e w' ⟨rfl, rfl⟩)
            go_roundw
            case rel => exact ⟨mkB q, i + 1, st, rfl, by go_num, by rw [data_mkB]; exact HRL.out.1.trans HRE.out, by rw [size_mkB]; have := HRL.out.2.1; have := HSH.out; omega, HRL.out.2.2.1.more (Nat.le_succ _), HRS2.out, HO2.out⟩
            case measure => (show (mkB q).size < u.size; rw [size_mkB]; exact HSH.out)
          · have hemp2 : (mkB x).toList.isEmpty = false := empty_mkB x hx
            have HST2 : Hid (resW st i u.data.toList = match stepW st x with | .error e => .error (i + 1, e) | .ok st' => resW st' (i + 1) q) := by show _ = _; rw [HST.out, if_neg hx]
            have hln := rline8_any (pb + 1) pb (srtS st) (mkB x) w2 (by rw [size_mkB]; have := HXL.out; omega) HRS2.out (by have h1 := HO2.out.size; have h2 := HZ.out; have h3 := HPB.out; omega) (Nat.lt_succ_self _) (by show (srtR st.2.1).length < _; rw [srtR_len]; have := HRL.out.2.2.1.2.1; omega)
            rw [data_mkB, line_same st x HXT.out hx HRL.out.2.2.1.2.2.1] at hln
            have HLN := Lib.hid hln
            clear hln hx
            cases hsw : stepW st x with
            | error z =>
              have hz0 := stepW_ne hsw
              have z1 : (z == 0) = false := beq_eq_false_iff_ne.2 hz0
              have z2 : (z != 0) = true := bne_iff_ne.2 hz0
              have HPW : Hid (parseW s.data.toList = (tab0, i + 1, z)) := by
                show endW _ = _
                rw [HRL.out.1, HST2.out, hsw]; rfl
              rw [hsw] at HLN
              simp only at HLN
              clear hsw hz0
              go_wp2_with (go_at_call 25; with_reducible refine (HTR.out _).mono ?_; rintro e w' ⟨rfl, rfl⟩)
              refine HLN.out.mono ?_
              rintro e w3 ⟨ho3, ⟨st', h2, _⟩ | ⟨z', h2, rfl⟩⟩
              · cases h2
              · cases h2
                have HO3 := Lib.hid (HO2.out.trans ho3)
                clear ho3
                have hsv := rp_src HPB.out HZ.out HD0.out HO3.out
                have hbv := rp_below HB.out HPB.out HZ.out HO3.out
                obtain ⟨k0, k1, k2, kf, kl⟩ := hsv.cells
                have kf0 := kf 0
                have kf1 := kf 1
                have kf2 := kf 2
                have hpe : SrcIs (((w3.setCell ⟨r, 0, none⟩ (.string { data := #[] })).setCell ⟨r, 1, none⟩ (.slice none 0 0)).setCell ⟨r, 2, none⟩ (.slice none 0 0)) r [] (.slice none 0 0) (.slice none 0 0) := hsv.put3 [] _ _
                have hbe := below_put3 (Nat.le_refl r) hbv (.string { data := #[] }) (.slice none 0 0) (.slice none 0 0)
                have HPE := Lib.hid (And.intro hpe hbe)
                clear hsv hbv kf hpe hbe
                go_wp2_with fail
                generalize (((w3.setCell ⟨r, 0, none⟩ (.string { data := #[] })).setCell ⟨r, 1, none⟩ (.slice none 0 0)).setCell ⟨r, 2, none⟩ (.slice none 0 0)) = WF at *
                obtain ⟨q0, q1, q2, _, _⟩ := HPE.out.1.cells
                refine bodyPost_ret (v := .tuple #[.agg #[.string (mkB []), .slice none 0 0, .slice none 0 0], .int .i64 ((i : Int) + 1), .int .i64 z]) (by simp [results, Tryz.results8, go_sem, q0, q1, q2]) rfl ?_
                refine ⟨by rw [← HRR.out]; exact HPE.out.2, .slice none 0 0, .slice none 0 0, by rw [HPW.out] <;> rfl, by rw [HPW.out]; exact RngsIn.nil _ _, by rw [HPW.out]; exact entsNil _ _⟩
            | ok st' =>
              have HOK := Lib.hid (stepW_ok HRL.out.2.2.1 hsw)
              have HRE : Hid (resW st i u.data.toList = resW st' (i + 1) q) := by show _ = _; rw [HST2.out, hsw]
              rw [hsw] at HLN
              simp only at HLN
              clear hsw
              go_wp2_with (go_at_call 25; with_reducible refine (HTR.out _).mono ?_; rintro e w' ⟨rfl, rfl⟩)
              refine HLN.out.mono ?_
              rintro e w3 ⟨ho3, ⟨st2, h2, rfl, hrs3⟩ | ⟨z', h2, _⟩⟩
              · cases h2
                have HO3 := Lib.hid (HO2.out.trans ho3)
                have HRS3 := Lib.hid hrs3
                clear ho3 hrs3
                go_wp2_with fail
                go_roundw
                case rel => exact ⟨mkB q, i + 1, st', rfl, by go_num, by rw [data_mkB]; exact HRL.out.1.trans HRE.out, by rw [size_mkB]; have := HRL.out.2.1; have := HSH.out; omega, HOK.out, HRS3.out, HO3.out⟩
                case measure => (show (mkB q).size < u.size; rw [size_mkB]; exact HSH.out)
              · cases h2
end Go.Proofs.YtjbcbejedaeedaaGreatDoor
/-! Chapter 8: any text is read as the document says: the law walked. -/
namespace Go.Proofs.YtjbcbejedaeedaaGreatDoor
open Go.RowKit

set_option maxHeartbeats 8000000 in
set_option maxRecDepth 100000 in
theorem reads8_any (s : ByteArray) (w : World) (hm : ML w) (hs : s.size ≤ 140737488351232) :
    Calls Tryz.prog 3 #[.string s] w fun e w' => e = .returned (.bool true) ∧ Below w.heap.size w w' := by
  have HM := Lib.hid hm
  have haw := awake8_any w hm
  clear hm
  go_enter Tryz.func3, Tryz.ntmps3
  go_wp2_with fail
  with_reducible refine haw.mono ?_
  rintro e w1 ⟨rfl, hb1⟩
  have HB1 := Lib.hid hb1
  clear haw hb1
  by_cases hsz : 6000 < s.size
  · have q2 : (s.size : Int) > 6000 := by omega
    go_wp2_with fail
    go_ret
    exact ⟨rfl, HB1.out⟩
  · have q2 : ¬ (s.size : Int) > 6000 := by omega
    have hp1 := parse8_any s w1 (by omega) (HM.out.below HB1.out)
    have HP2 := Lib.hid (fun W => rparse_any s W (by omega))
    have HSZ := Lib.hid (parseW_sizes s.data.toList)
    have hat0 := parseW_at s.data.toList
    have HSL : Hid (s.data.toList.length = s.size) := size_data s
    have HS6 : Hid (s.size ≤ 6000) := by show _ ≤ _; omega
    rw [HSL.out] at hat0
    have HAT := Lib.hid hat0
    clear hsz hat0
    go_wp2_with fail
    with_reducible refine hp1.mono ?_
    clear hp1
    rintro e w2 ⟨hb2, rv, ev, rfl, hrv, hev⟩
    unfold ParseEnd at HP2
    generalize parseW s.data.toList = q at *
    obtain ⟨⟨ver, rs, es⟩, at1, er⟩ := q
    dsimp only at hrv hev HAT HSZ HP2 ⊢
    have hat : at1 ≤ 6001 := by have := HAT.out; have := HS6.out; omega
    have HBX : Hid (Below w.heap.size w w2) := HB1.out.trans (hb2.mono HB1.out.size)
    have HRV := Lib.hid hrv
    have HEV := Lib.hid hev
    obtain ⟨rp, rc, rfl, _⟩ := hrv
    obtain ⟨ep, ec, rfl, _⟩ := hev
    clear hb2
    go_wp2_with fail
    have hp2 := HP2.out (w2.alloc (.cells #[.string (mkB ver), .slice rp rs.length rc, .slice ep es.length ec] 26))
    have hsr : SrcIs (w2.alloc (.cells #[.string (mkB ver), .slice rp rs.length rc, .slice ep es.length ec] 26)) w2.heap.size ver (.slice rp rs.length rc) (.slice ep es.length ec) := World.alloc_heap_new w2 _
    have HBS : Hid (Below w2.heap.size w2 (w2.alloc (.cells #[.string (mkB ver), .slice rp rs.length rc, .slice ep es.length ec] 26))) := (Below.refl _ w2).alloc (Nat.le_refl _) _
    with_reducible refine hp2.mono ?_
    clear hp2
    generalize w2.alloc (.cells #[.string (mkB ver), .slice rp rs.length rc, .slice ep es.length ec] 26) = W2 at *
    rintro e w3 ⟨hb3, rv2, ev2, rfl, hrv2, hev2⟩
    have hbx : Below w2.heap.size w2 w3 := HBS.out.trans (hb3.mono HBS.out.size)
    have HBY : Hid (Below w.heap.size w w3) := HBX.out.trans (hbx.mono HBX.out.size)
    have hr1 := HRV.out.kept (Kept.below hbx)
    have he1 := HEV.out.kept (Kept.below hbx)
    have hsr2 : SrcIs w3 w2.heap.size ver (.slice rp rs.length rc) (.slice ep es.length ec) := hsr.below hb3
    have HR2 := Lib.hid hrv2
    have HE2 := Lib.hid hev2
    have HR1 := Lib.hid hr1
    have HE1 := Lib.hid he1
    obtain ⟨rp2, rc2, rfl, _⟩ := hrv2
    obtain ⟨ep2, ec2, rfl, _⟩ := hev2
    have hbz : Below w3.heap.size w3 (w3.alloc (.cells #[.string (mkB ver), .slice rp2 rs.length rc2, .slice ep2 es.length ec2] 26)) := (Below.refl _ w3).alloc (Nat.le_refl _) _
    have hsa := rSame8_any _ _ ver rs es _ _ _ _ _ (HR1.out.kept (Kept.below hbz)) (HE1.out.kept (Kept.below hbz)) (HR2.out.kept (Kept.below hbz)) (HE2.out.kept (Kept.below hbz)) (by have h1 := HSZ.out.1; have h2 := HSL.out; have h3 := HS6.out; omega) (by have h1 := HSZ.out.2.1; omega) (fun x hx => by have := HSZ.out.2.2 x hx; omega)
    have hsr3 := hsr2.below hbz
    obtain ⟨s0, s1, s2, _, sl⟩ := hsr3.cells
    have HBZ : Hid (Below w.heap.size w (w3.alloc (.cells #[.string (mkB ver), .slice rp2 rs.length rc2, .slice ep2 es.length ec2] 26))) := HBY.out.trans (hbz.mono HBY.out.size)
    clear hbx hr1 he1 hsr hsr2 hsr3 hbz hb3
    have HSA := Lib.hid hsa
    clear hsa
    go_wp2_with fail
    with_reducible refine HSA.out.mono ?_
    rintro e w4 ⟨rfl, hb4⟩
    have HB4 : Hid (Below w.heap.size w w4) := HBZ.out.trans (hb4.mono HBZ.out.size)
    clear hb4 s0 s1 s2 sl
    go_wp2_with fail
    go_ret
    exact ⟨rfl, HB4.out⟩
end Go.Proofs.YtjbcbejedaeedaaGreatDoor
