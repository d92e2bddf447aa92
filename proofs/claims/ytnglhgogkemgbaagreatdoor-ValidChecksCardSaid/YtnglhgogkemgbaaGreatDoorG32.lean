/- Ranges of package weight: any ranges: walked. -/
import Derived.Test.YtnglhgogkemgbaaGreatDoorG03
import Derived.Test.YtnglhgogkemgbaaGreatDoorG02
import Derived.Deep.QuietTactic
import Derived.BigQuiet
import Derived.IntWalk
namespace Go.Proofs.YtnglhgogkemgbaaGreatDoor
open Go.RowKit

theorem pointY (r : Int) (w : World) (h : 0 ≤ r ∧ r ≤ 1114111) :
    Calls Tryz.prog 93 #[.int .i32 r] w fun e w' => e = .returned (.bool true) ∧ w = w' := by
  obtain ⟨h0, h1⟩ := h
  go_enter Tryz.func93, Tryz.ntmps93
  go_wp2
  all_goals go_ret
  all_goals exact ⟨rfl, rfl⟩
theorem pointN (r : Int) (w : World) (h : ¬ (0 ≤ r ∧ r ≤ 1114111)) :
    Calls Tryz.prog 93 #[.int .i32 r] w fun e w' => e = .returned (.bool false) ∧ w = w' := by
  by_cases h0 : 0 ≤ r
  · have d0 : decide (0 ≤ r) = true := decide_eq_true h0
    have d1 : decide (r ≤ 1114111) = false := decide_eq_false (by omega)
    clear h h0
    go_enter Tryz.func93, Tryz.ntmps93
    go_wp2
    all_goals go_ret
    all_goals exact ⟨rfl, rfl⟩
  · have d0 : decide (0 ≤ r) = false := decide_eq_false h0
    clear h h0
    go_enter Tryz.func93, Tryz.ntmps93
    go_wp2
    all_goals go_ret
    all_goals exact ⟨rfl, rfl⟩
theorem withinY (n a b : Int) (w : World) (h : a ≤ n ∧ n ≤ b) :
    Calls Tryz.prog 94 #[.int .i64 n, .int .i64 a, .int .i64 b] w fun e w' => e = .returned (.bool true) ∧ w = w' :=
  (within_any n a b w).mono fun e w' ⟨he, hw⟩ => ⟨by rw [he]; simp [inB, h.1, h.2], hw⟩
theorem withinN (n a b : Int) (w : World) (h : ¬ (a ≤ n ∧ n ≤ b)) :
    Calls Tryz.prog 94 #[.int .i64 n, .int .i64 a, .int .i64 b] w fun e w' => e = .returned (.bool false) ∧ w = w' :=
  (within_any n a b w).mono fun e w' ⟨he, hw⟩ => ⟨by rw [he]; congr 2; simp [inB]; omega, hw⟩
/-- the range ahead -/
def prevR (rs : List Rng) (k : Nat) : Option Rng := if k = 0 then none else rs[k - 1]?
theorem prevR_succ {rs : List Rng} {k : Nat} {x : Rng} (h : rs[k]? = some x) : prevR rs (k + 1) = some x := by unfold prevR; rw [if_neg (by omega)]; exact h
theorem rngG_at {rs : List Rng} {k : Nat} {x : Rng} (h : rs[k]? = some x) : rngG (prevR rs k) (rs.drop k) = (rngB (prevR rs k) x && rngG (prevR rs (k + 1)) (rs.drop (k + 1))) := by
  obtain ⟨hk, rfl⟩ := List.getElem?_eq_some_iff.1 h
  rw [List.drop_eq_getElem_cons hk, rngG, prevR_succ h]
/-- what is asked of a range but for the base's kind -/
def rng1 (p : Option Rng) (x : Rng) : Prop := 0 ≤ x.1 ∧ x.2.1 ≤ 1114111 ∧ x.1 ≤ x.2.1 ∧ (∀ y, p = some y → y.2.1 < x.1) ∧ 64256 ≤ x.2.2.1 ∧ x.2.2.1 ≤ 64447
def rng2 (x : Rng) : Prop := if x.2.2.2 then x.2.2.1 < 64320 ∧ x.2.1 - x.1 < 32768 else x.2.2.1 = 64320 ∨ x.2.2.1 = 64384
theorem rngB_iff (p : Option Rng) (x : Rng) : rngB p x = true ↔ rng1 p x ∧ rng2 x := by
  unfold rngB rng1 rng2
  cases p with
  | none => cases x.2.2.2 <;> simp [and_assoc]
  | some y => cases x.2.2.2 <;> simp [and_assoc]
theorem rngC_big {rs : List Rng} (h : 100 < rs.length) : rngC rs = 2 := by unfold rngC; rw [if_pos h]
theorem rngC_yes {rs : List Rng} (h : ¬ 100 < rs.length) (hg : rngG none rs = true) : rngC rs = 0 := by unfold rngC; rw [if_neg h, if_pos hg]
theorem rngC_no {rs : List Rng} (h : ¬ 100 < rs.length) (hg : rngG none rs = false) : rngC rs = 71 := by unfold rngC; rw [if_neg h, if_neg (by rw [hg]; decide)]
set_option maxHeartbeats 8000000 in
set_option maxRecDepth 100000 in
theorem wRanges_any (R : Nat → Prop) (rs : List Rng) (v : Value) (w : World) (hv : RngsIn R w v rs) (hl : rs.length ≤ 140737488351232) :
    Calls Tryz.prog 50 #[v] w fun e w' => e = .returned (.int .i64 (rngC rs)) ∧ Below w.heap.size w w' := by
  obtain ⟨p, cap, rfl, hc⟩ := hv
  have HC : Hid (∀ (W : World), Below w.heap.size w W → ∀ (i : Nat) x, rs[i]? = some x → ∃ b o, p = some ⟨b, o, none⟩ ∧ b < W.heap.size ∧ Rg4 W b (o + i * 4) x) := by
    show ∀ W, _
    intro W hb i x hx
    obtain ⟨b, o, e, _, hl, hcc⟩ := hc i x hx
    exact ⟨b, o, e, Nat.lt_of_lt_of_le hl hb.size, hcc.of (hb.block b hl)⟩
  clear hc
  obtain ⟨n, hn⟩ : ∃ n, n = rs.length := ⟨_, rfl⟩
  rw [← hn] at hl ⊢
  have HN := Lib.hid hn
  clear hn
  by_cases h100 : 100 < n
  · have HE : Hid (rngC rs = 2) := rngC_big (by rw [← HN.out]; exact h100)
    have g1 : (n : Int) > 100 := by omega
    clear h100
    go_enter Tryz.func50, Tryz.ntmps50
    go_wp2_with fail
    go_ret
    exact ⟨by rw [HE.out] <;> rfl, Below.refl _ _⟩
  · have HNB : Hid (¬ 100 < rs.length) := by rw [← HN.out]; exact h100
    have g1 : decide ((n : Int) > 100) = false := decide_eq_false (by omega)
    have hn100 : n ≤ 100 := by omega
    clear h100 hl
    go_enter Tryz.func50, Tryz.ntmps50
    go_wp2_with fail
    go_loopw [11] (fun iv wr => ∃ k : Nat, iv = .int .i64 k ∧ k ≤ n ∧ rngG none rs = rngG (prevR rs k) (rs.drop k) ∧ Below w.heap.size w wr) (fun iv _ => n - (intOf iv).toNat)
    case atStart => exact ⟨0, rfl, Nat.zero_le _, rfl, Below.refl _ _⟩
    case round =>
      obtain ⟨k, rfl, hk, hg, hb⟩ := hrel
      have HG := Lib.hid hg
      have HB := Lib.hid hb
      clear hg hb
      by_cases hlt : k < n
      · obtain ⟨x, hx⟩ : ∃ x, rs[k]? = some x := ⟨_, List.getElem?_eq_getElem (by have := HN.out; omega)⟩
        obtain ⟨b, o, rfl, hbl, q0, q1, q2, q3⟩ := HC.out wr HB.out k x hx
        have HAT := Lib.hid (rngG_at hx)
        have HPS := Lib.hid (prevR_succ hx)
        have HX := Lib.hid hx
        have HFAIL : Hid (¬ (rng1 (prevR rs k) x ∧ rng2 x) → rngC rs = 71) := by
          show _ → _
          intro h
          refine rngC_no HNB.out ?_
          rw [HG.out, HAT.out]
          cases hr : rngB (prevR rs k) x with
          | true => exact absurd ((rngB_iff _ _).1 hr) h
          | false => rfl
        have HGO : Hid (rng1 (prevR rs k) x → rng2 x → rngG none rs = rngG (prevR rs (k + 1)) (rs.drop (k + 1))) := by
          show _ → _
          intro h1 h2
          rw [HG.out, HAT.out, (rngB_iff _ _).2 ⟨h1, h2⟩, Bool.true_and]
        obtain ⟨f, t, bs, wh⟩ := x
        simp only at q0 q1 q2 q3
        have g2 : (k : Int) < (n : Int) := by omega
        have HKN := Lib.hid hlt
        have HBX : Hid (∀ m wh, Below w.heap.size w ((wr.alloc (.cells #[.int .i32 f, .int .i32 t, .int .i64 bs, .bool wh] 136)).drewN m)) := by
          show ∀ m wh, _
          intro m wh
          exact below_drewN (HB.out.alloc HB.out.size _) m
        clear hx hlt hk
        by_cases c1 : 0 ≤ f ∧ f ≤ 1114111
        · by_cases c2 : 0 ≤ t ∧ t ≤ 1114111
          · by_cases c3 : f ≤ t
            · have g3 : decide (f > t) = false := decide_eq_false (by omega)
              have HK0 : Hid (k = 0 → prevR rs k = none) := fun h => by unfold prevR; rw [if_pos h]
              have HK1 : Hid (∀ j, k = j + 1 → prevR rs k = rs[j]?) := fun j h => by unfold prevR; rw [if_neg (by omega), show k - 1 = j from by omega]
              have HD : Hid (∀ W, Below w.heap.size w W → ∀ j y, rs[j]? = some y → b < W.heap.size ∧ W.cell? ⟨b, o + j * 4 + 1, none⟩ = some (.int .i32 y.2.1)) := by
                show ∀ W, _
                intro W hW j y hy
                obtain ⟨b', o', e, hl', _, h1, _⟩ := HC.out W hW j y hy
                cases e
                exact ⟨hl', h1⟩
              rcases Nat.eq_zero_or_pos k with hk0 | hk0
              · have hpv := HK0.out hk0
                have g4 : decide ((k : Int) > 0) = false := decide_eq_false (by omega)
                have g5 : decide (0 < k) = false := decide_eq_false (by omega)
                clear hk0
                by_cases c5 : 64256 ≤ bs ∧ bs ≤ 64447
                · have HR1 : Hid (rng1 (prevR rs k) (f, t, bs, wh)) := ⟨c1.1, c2.2, c3, (fun y hy => by rw [hpv] at hy; cases hy), c5.1, c5.2⟩
                  have hwt : IntKind.i32.wrap (t - f) = t - f := IntWalk.i32_in (t - f) (by omega)
                  clear hpv
                  cases wh with
                  | true =>
                    by_cases c6 : bs < 64320
                    · have g7 : decide (bs ≥ 64320) = false := decide_eq_false (by omega)
                      by_cases c7 : t - f < 32768
                      · have HE : Hid (rngG none rs = rngG (prevR rs (k + 1)) (rs.drop (k + 1))) := HGO.out HR1.out ⟨c6, c7⟩
                        have g8 : decide (t - f ≥ 32768) = false := decide_eq_false (by omega)
                        clear c6 c7
                        (go_wp2_with fail; go_quiet (first | (go_at_call 93; exact quiet_same (pointY _ _ (by omega))) | (go_at_call 93; exact quiet_same (pointN _ _ (by omega))) | (go_at_call 94; exact quiet_same (withinY _ _ _ _ (by omega))) | (go_at_call 94; exact quiet_same (withinN _ _ _ _ (by omega)))); go_wp2_with fail; go_roundw; (case rel => exact ⟨k + 1, by go_num, HKN.out, HE.out, HBX.out _ _⟩); (case measure => (have := HKN.out; simp [intOf]; omega)))
                      · have HE : Hid (rngC rs = 71) := HFAIL.out (fun h => c7 h.2.2)
                        have g8 : decide (t - f ≥ 32768) = true := decide_eq_true (by omega)
                        clear c6 c7
                        (go_wp2_with fail; go_quiet (first | (go_at_call 93; exact quiet_same (pointY _ _ (by omega))) | (go_at_call 93; exact quiet_same (pointN _ _ (by omega))) | (go_at_call 94; exact quiet_same (withinY _ _ _ _ (by omega))) | (go_at_call 94; exact quiet_same (withinN _ _ _ _ (by omega)))); go_wp2_with fail; go_ret; exact ⟨by rw [HE.out] <;> rfl, HBX.out _ _⟩)
                    · have HE : Hid (rngC rs = 71) := HFAIL.out (fun h => c6 h.2.1)
                      have g7 : decide (bs ≥ 64320) = true := decide_eq_true (by omega)
                      clear c6
                      (go_wp2_with fail; go_quiet (first | (go_at_call 93; exact quiet_same (pointY _ _ (by omega))) | (go_at_call 93; exact quiet_same (pointN _ _ (by omega))) | (go_at_call 94; exact quiet_same (withinY _ _ _ _ (by omega))) | (go_at_call 94; exact quiet_same (withinN _ _ _ _ (by omega)))); go_wp2_with fail; go_ret; exact ⟨by rw [HE.out] <;> rfl, HBX.out _ _⟩)
                  | false =>
                    by_cases c6 : bs = 64320 ∨ bs = 64384
                    · have HE : Hid (rngG none rs = rngG (prevR rs (k + 1)) (rs.drop (k + 1))) := HGO.out HR1.out c6
                      rcases c6 with rfl | rfl
                      · (go_wp2_with fail; go_quiet (first | (go_at_call 93; exact quiet_same (pointY _ _ (by omega))) | (go_at_call 93; exact quiet_same (pointN _ _ (by omega))) | (go_at_call 94; exact quiet_same (withinY _ _ _ _ (by omega))) | (go_at_call 94; exact quiet_same (withinN _ _ _ _ (by omega)))); go_wp2_with fail; go_roundw; (case rel => exact ⟨k + 1, by go_num, HKN.out, HE.out, HBX.out _ _⟩); (case measure => (have := HKN.out; simp [intOf]; omega)))
                      · (go_wp2_with fail; go_quiet (first | (go_at_call 93; exact quiet_same (pointY _ _ (by omega))) | (go_at_call 93; exact quiet_same (pointN _ _ (by omega))) | (go_at_call 94; exact quiet_same (withinY _ _ _ _ (by omega))) | (go_at_call 94; exact quiet_same (withinN _ _ _ _ (by omega)))); go_wp2_with fail; go_roundw; (case rel => exact ⟨k + 1, by go_num, HKN.out, HE.out, HBX.out _ _⟩); (case measure => (have := HKN.out; simp [intOf]; omega)))
                    · have HE : Hid (rngC rs = 71) := HFAIL.out (fun h => c6 h.2)
                      have g7 : (bs == 64320) = false := beq_eq_false_iff_ne.2 (by omega)
                      have g8 : (bs == 64384) = false := beq_eq_false_iff_ne.2 (by omega)
                      have g9 : (bs != 64320) = true := by simp; omega
                      have g10 : (bs != 64384) = true := by simp; omega
                      clear c6
                      (go_wp2_with fail; go_quiet (first | (go_at_call 93; exact quiet_same (pointY _ _ (by omega))) | (go_at_call 93; exact quiet_same (pointN _ _ (by omega))) | (go_at_call 94; exact quiet_same (withinY _ _ _ _ (by omega))) | (go_at_call 94; exact quiet_same (withinN _ _ _ _ (by omega)))); go_wp2_with fail; go_ret; exact ⟨by rw [HE.out] <;> rfl, HBX.out _ _⟩)
                · have HE : Hid (rngC rs = 71) := HFAIL.out (fun h => by
                    have := h.1.2.2.2.2.1; have := h.1.2.2.2.2.2; simp only at *; omega)
                  clear hpv
                  (go_wp2_with fail; go_quiet (first | (go_at_call 93; exact quiet_same (pointY _ _ (by omega))) | (go_at_call 93; exact quiet_same (pointN _ _ (by omega))) | (go_at_call 94; exact quiet_same (withinY _ _ _ _ (by omega))) | (go_at_call 94; exact quiet_same (withinN _ _ _ _ (by omega)))); go_wp2_with fail; all_goals go_ret; all_goals exact ⟨by rw [HE.out] <;> rfl, HBX.out _ _⟩)
              · obtain ⟨j, hj⟩ : ∃ j, k = j + 1 := ⟨k - 1, by omega⟩
                obtain ⟨y, hy⟩ : ∃ y, rs[j]? = some y := ⟨_, List.getElem?_eq_getElem (by have := HN.out; have := HKN.out; omega)⟩
                have hpv := HK1.out j hj
                rw [hy] at hpv
                have g4 : decide ((k : Int) > 0) = true := decide_eq_true (by omega)
                have g5 : decide (0 < k) = true := decide_eq_true (by omega)
                have hkj : (k : Int) - 1 = (j : Int) := by omega
                have hjn : j < n := by have := HKN.out; omega
                obtain ⟨_, p1⟩ := HD.out wr HB.out j y hy
                clear hj hy
                by_cases c4 : y.2.1 < f
                · have g6 : decide (f ≤ y.2.1) = false := decide_eq_false (by omega)
                  by_cases c5 : 64256 ≤ bs ∧ bs ≤ 64447
                  · have HR1 : Hid (rng1 (prevR rs k) (f, t, bs, wh)) := ⟨c1.1, c2.2, c3, (fun z hz => by rw [hpv] at hz; cases hz; exact c4), c5.1, c5.2⟩
                    have hwt : IntKind.i32.wrap (t - f) = t - f := IntWalk.i32_in (t - f) (by omega)
                    clear hpv
                    cases wh with
                    | true =>
                      by_cases c6 : bs < 64320
                      · have g7 : decide (bs ≥ 64320) = false := decide_eq_false (by omega)
                        by_cases c7 : t - f < 32768
                        · have HE : Hid (rngG none rs = rngG (prevR rs (k + 1)) (rs.drop (k + 1))) := HGO.out HR1.out ⟨c6, c7⟩
                          have g8 : decide (t - f ≥ 32768) = false := decide_eq_false (by omega)
                          clear c6 c7
                          (go_wp2_with fail; go_quiet (first | (go_at_call 93; exact quiet_same (pointY _ _ (by omega))) | (go_at_call 93; exact quiet_same (pointN _ _ (by omega))) | (go_at_call 94; exact quiet_same (withinY _ _ _ _ (by omega))) | (go_at_call 94; exact quiet_same (withinN _ _ _ _ (by omega)))); go_wp2_with fail; go_roundw; (case rel => exact ⟨k + 1, by go_num, HKN.out, HE.out, HBX.out _ _⟩); (case measure => (have := HKN.out; simp [intOf]; omega)))
                        · have HE : Hid (rngC rs = 71) := HFAIL.out (fun h => c7 h.2.2)
                          have g8 : decide (t - f ≥ 32768) = true := decide_eq_true (by omega)
                          clear c6 c7
                          (go_wp2_with fail; go_quiet (first | (go_at_call 93; exact quiet_same (pointY _ _ (by omega))) | (go_at_call 93; exact quiet_same (pointN _ _ (by omega))) | (go_at_call 94; exact quiet_same (withinY _ _ _ _ (by omega))) | (go_at_call 94; exact quiet_same (withinN _ _ _ _ (by omega)))); go_wp2_with fail; go_ret; exact ⟨by rw [HE.out] <;> rfl, HBX.out _ _⟩)
                      · have HE : Hid (rngC rs = 71) := HFAIL.out (fun h => c6 h.2.1)
                        have g7 : decide (bs ≥ 64320) = true := decide_eq_true (by omega)
                        clear c6
                        (go_wp2_with fail; go_quiet (first | (go_at_call 93; exact quiet_same (pointY _ _ (by omega))) | (go_at_call 93; exact quiet_same (pointN _ _ (by omega))) | (go_at_call 94; exact quiet_same (withinY _ _ _ _ (by omega))) | (go_at_call 94; exact quiet_same (withinN _ _ _ _ (by omega)))); go_wp2_with fail; go_ret; exact ⟨by rw [HE.out] <;> rfl, HBX.out _ _⟩)
                    | false =>
                      by_cases c6 : bs = 64320 ∨ bs = 64384
                      · have HE : Hid (rngG none rs = rngG (prevR rs (k + 1)) (rs.drop (k + 1))) := HGO.out HR1.out c6
                        rcases c6 with rfl | rfl
                        · (go_wp2_with fail; go_quiet (first | (go_at_call 93; exact quiet_same (pointY _ _ (by omega))) | (go_at_call 93; exact quiet_same (pointN _ _ (by omega))) | (go_at_call 94; exact quiet_same (withinY _ _ _ _ (by omega))) | (go_at_call 94; exact quiet_same (withinN _ _ _ _ (by omega)))); go_wp2_with fail; go_roundw; (case rel => exact ⟨k + 1, by go_num, HKN.out, HE.out, HBX.out _ _⟩); (case measure => (have := HKN.out; simp [intOf]; omega)))
                        · (go_wp2_with fail; go_quiet (first | (go_at_call 93; exact quiet_same (pointY _ _ (by omega))) | (go_at_call 93; exact quiet_same (pointN _ _ (by omega))) | (go_at_call 94; exact quiet_same (withinY _ _ _ _ (by omega))) | (go_at_call 94; exact quiet_same (withinN _ _ _ _ (by omega)))); go_wp2_with fail; go_roundw; (case rel => exact ⟨k + 1, by go_num, HKN.out, HE.out, HBX.out _ _⟩); (case measure => (have := HKN.out; simp [intOf]; omega)))
                      · have HE : Hid (rngC rs = 71) := HFAIL.out (fun h => c6 h.2)
                        have g7 : (bs == 64320) = false := beq_eq_false_iff_ne.2 (by omega)
                        have g8 : (bs == 64384) = false := beq_eq_false_iff_ne.2 (by omega)
                        have g9 : (bs != 64320) = true := by simp; omega
                        have g10 : (bs != 64384) = true := by simp; omega
                        clear c6
                        (go_wp2_with fail; go_quiet (first | (go_at_call 93; exact quiet_same (pointY _ _ (by omega))) | (go_at_call 93; exact quiet_same (pointN _ _ (by omega))) | (go_at_call 94; exact quiet_same (withinY _ _ _ _ (by omega))) | (go_at_call 94; exact quiet_same (withinN _ _ _ _ (by omega)))); go_wp2_with fail; go_ret; exact ⟨by rw [HE.out] <;> rfl, HBX.out _ _⟩)
                  · have HE : Hid (rngC rs = 71) := HFAIL.out (fun h => by
                      have := h.1.2.2.2.2.1; have := h.1.2.2.2.2.2; simp only at *; omega)
                    clear hpv
                    (go_wp2_with fail; go_quiet (first | (go_at_call 93; exact quiet_same (pointY _ _ (by omega))) | (go_at_call 93; exact quiet_same (pointN _ _ (by omega))) | (go_at_call 94; exact quiet_same (withinY _ _ _ _ (by omega))) | (go_at_call 94; exact quiet_same (withinN _ _ _ _ (by omega)))); go_wp2_with fail; all_goals go_ret; all_goals exact ⟨by rw [HE.out] <;> rfl, HBX.out _ _⟩)
                · have g6 : decide (f ≤ y.2.1) = true := decide_eq_true (by omega)
                  have HE : Hid (rngC rs = 71) := HFAIL.out (fun h => by
                    have := h.1.2.2.2.1 y hpv; simp only at this; omega)
                  clear hpv c4
                  (go_wp2_with fail; go_quiet (first | (go_at_call 93; exact quiet_same (pointY _ _ (by omega))) | (go_at_call 93; exact quiet_same (pointN _ _ (by omega))) | (go_at_call 94; exact quiet_same (withinY _ _ _ _ (by omega))) | (go_at_call 94; exact quiet_same (withinN _ _ _ _ (by omega)))); go_wp2_with fail; all_goals go_ret; all_goals exact ⟨by rw [HE.out] <;> rfl, HBX.out _ _⟩)
            · have g3 : decide (f > t) = true := decide_eq_true (by omega)
              have HE : Hid (rngC rs = 71) := HFAIL.out (fun h => by
                have := h.1.2.2.1; simp only at this; omega)
              (go_wp2_with fail; go_quiet (first | (go_at_call 93; exact quiet_same (pointY _ _ (by omega))) | (go_at_call 93; exact quiet_same (pointN _ _ (by omega))) | (go_at_call 94; exact quiet_same (withinY _ _ _ _ (by omega))) | (go_at_call 94; exact quiet_same (withinN _ _ _ _ (by omega)))); go_wp2_with fail; all_goals go_ret; all_goals exact ⟨by rw [HE.out] <;> rfl, HBX.out _ _⟩)
          · have HE : Hid (rngC rs = 71) := HFAIL.out (fun h => by
              have := h.1.1; have := h.1.2.1; have := h.1.2.2.1; simp only at *; omega)
            (go_wp2_with fail; go_quiet (first | (go_at_call 93; exact quiet_same (pointY _ _ (by omega))) | (go_at_call 93; exact quiet_same (pointN _ _ (by omega))) | (go_at_call 94; exact quiet_same (withinY _ _ _ _ (by omega))) | (go_at_call 94; exact quiet_same (withinN _ _ _ _ (by omega)))); go_wp2_with fail; all_goals go_ret; all_goals exact ⟨by rw [HE.out] <;> rfl, HBX.out _ _⟩)
        · have HE : Hid (rngC rs = 71) := HFAIL.out (fun h => by
            have := h.1.1; have := h.1.2.1; have := h.1.2.2.1; simp only at *; omega)
          (go_wp2_with fail; go_quiet (first | (go_at_call 93; exact quiet_same (pointY _ _ (by omega))) | (go_at_call 93; exact quiet_same (pointN _ _ (by omega))) | (go_at_call 94; exact quiet_same (withinY _ _ _ _ (by omega))) | (go_at_call 94; exact quiet_same (withinN _ _ _ _ (by omega)))); go_wp2_with fail; all_goals go_ret; all_goals exact ⟨by rw [HE.out] <;> rfl, HBX.out _ _⟩)
      · have g2 : ¬ (k : Int) < (n : Int) := by omega
        obtain rfl : k = n := by omega
        have HE : Hid (rngC rs = 0) := by
          refine rngC_yes HNB.out ?_
          rw [HG.out, List.drop_of_length_le (by rw [← HN.out]; exact Nat.le_refl _)]
          cases prevR rs k <;> rfl
        clear hlt
        go_wp2_with fail
        go_ret
        exact ⟨by rw [HE.out] <;> rfl, HB.out⟩
end Go.Proofs.YtnglhgogkemgbaaGreatDoor
