/- The reference's Check, of any data: walked. -/
import Derived.Test.YtnglhgogkemgbaaGreatDoorG17
import Derived.Test.YtnglhgogkemgbaaGreatDoorG18
namespace Go.Proofs.YtnglhgogkemgbaaGreatDoor
open Go.RowKit

theorem rscalar_no (r : Int) (w : World) (h : pt r = false) : Calls Tryz.prog 60 #[.int .i32 r] w fun e w' => e = .returned (.bool false) ∧ w = w' := by rw [← h]; exact rscalar_any r w
theorem told_yes (r : Int) (w : World) (h : told r = true) : Calls Tryz.prog 76 #[.int .i32 r] w fun e w' => e = .returned (.bool true) ∧ w = w' := by rw [← h]; exact told_any r w
theorem told_no (r : Int) (w : World) (h : told r = false) : Calls Tryz.prog 76 #[.int .i32 r] w fun e w' => e = .returned (.bool false) ∧ w = w' := by rw [← h]; exact told_any r w
/-- the class at a place may be -/
def clsAt (c : List T3) (i : Nat) : Prop := ∀ x, c[i]? = some x → clsOne x = true ∧ ∀ (j : Nat) (y : T3), i = j + 1 → c[j]? = some y → y.2.1 < x.1
theorem cls_all : ∀ (c : List T3), (∀ i, clsAt c i) → ∀ (p : Option T3), (∀ x y, c[0]? = some x → p = some y → y.2.1 < x.1) → clsFrom p c = true
  | [], _, _, _ => rfl
  | x :: xs, h, p, hp => by
    have h0 := (h 0 x rfl).1
    have h1 := cls_all xs (fun i y hy => ⟨(h (i + 1) y (by simpa using hy)).1, fun j z hj hz => (h (i + 1) y (by simpa using hy)).2 (j + 1) z (by omega) (by simpa using hz)⟩) (some x) (fun y z hy hz => by
      cases hz; exact (h 1 y (by simpa using hy)).2 0 x rfl rfl)
    unfold clsFrom
    rw [h0, h1]
    cases p with
    | none => rfl
    | some y => simpa using hp x y rfl rfl
def decAt (c : List T3) (i : Nat) : Prop := ∀ x, c[i]? = some x → decOne x = true ∧ ∀ (j : Nat) (y : T3), i = j + 1 → c[j]? = some y → y.1 < x.1
theorem dec_all : ∀ (c : List T3), (∀ i, decAt c i) → ∀ (p : Option T3), (∀ x y, c[0]? = some x → p = some y → y.1 < x.1) → decFrom p c = true
  | [], _, _, _ => rfl
  | x :: xs, h, p, hp => by
    have h0 := (h 0 x rfl).1
    have h1 := dec_all xs (fun i y hy => ⟨(h (i + 1) y (by simpa using hy)).1, fun j z hj hz => (h (i + 1) y (by simpa using hy)).2 (j + 1) z (by omega) (by simpa using hz)⟩) (some x) (fun y z hy hz => by
      cases hz; exact (h 1 y (by simpa using hy)).2 0 x rfl rfl)
    unfold decFrom
    rw [h0, h1]
    cases p with
    | none => rfl
    | some y => simpa using hp x y rfl rfl
theorem data_bad {c d : List T3} (h : ¬ (c.length ≤ 4000 ∧ d.length ≤ 8000 ∧ clsFrom none c = true ∧ decFrom none d = true ∧ ∀ x ∈ d, decTwo c d x = true)) : dataOk c d = false := by
  cases hc : dataOk c d with
  | false => rfl
  | true =>
    exfalso; apply h
    unfold dataOk at hc
    simp only [Bool.and_eq_true, decide_eq_true_eq, List.all_eq_true] at hc
    exact ⟨hc.1.1.1.1, hc.1.1.1.2, hc.1.1.2, hc.1.2, hc.2⟩
theorem data_good {c d : List T3} (h : c.length ≤ 4000 ∧ d.length ≤ 8000 ∧ clsFrom none c = true ∧ decFrom none d = true ∧ ∀ x ∈ d, decTwo c d x = true) : dataOk c d = true := by
  unfold dataOk
  simp only [Bool.and_eq_true, decide_eq_true_eq, List.all_eq_true]
  exact ⟨⟨⟨⟨h.1, h.2.1⟩, h.2.2.1⟩, h.2.2.2.1⟩, h.2.2.2.2⟩

/-- what Check tells: whether data may be -/
def CkTold (ok : Bool) (w : World) (e : Ending) (w' : World) : Prop :=
  ∃ k : Nat, e = .returned (.int .i64 k) ∧ k ≤ 100 ∧ ((k = 0 ∧ ok = true) ∨ (k ≠ 0 ∧ ok = false)) ∧ Below w.heap.size w w'
theorem CkTold.no {ok : Bool} {w w' : World} (k : Nat) (h : ok = false) (hk : 1 ≤ k ∧ k ≤ 100) (hb : Below w.heap.size w w') : CkTold ok w (.returned (.int .i64 k)) w' := ⟨k, rfl, hk.2, .inr ⟨by omega, h⟩, hb⟩

theorem five : ∀ a b c d e : Bool, (a = false ∨ (a = true ∧ b = false) ∨ (a = true ∧ b = true ∧ c = true) ∨ (a = true ∧ b = true ∧ c = false ∧ d = true) ∨ (a = true ∧ b = true ∧ c = false ∧ d = false ∧ e = true)) ∨ (a = true ∧ b = true ∧ c = false ∧ d = false ∧ e = false) := by
  intro a b c d e; cases a <;> cases b <;> cases c <;> cases d <;> cases e <;> simp
theorem seven : ∀ a b e f g h t : Bool, (a = false ∨ (a = true ∧ b = false) ∨ (a = true ∧ b = true ∧ e = false) ∨ (a = true ∧ b = true ∧ e = true ∧ f = true) ∨ (a = true ∧ b = true ∧ e = true ∧ f = false ∧ g = true ∧ h = true) ∨ (a = true ∧ b = true ∧ e = true ∧ f = false ∧ g = false ∧ t = true) ∨
    (a = true ∧ b = true ∧ e = true ∧ f = false ∧ g = true ∧ h = false ∧ t = true)) ∨ ((a = true ∧ b = true ∧ e = true ∧ f = false ∧ g = false ∧ t = false) ∨ (a = true ∧ b = true ∧ e = true ∧ f = false ∧ g = true ∧ h = false ∧ t = false)) := by
  intro a b e f g h t; cases a <;> cases b <;> cases e <;> cases f <;> cases g <;> cases h <;> cases t <;> simp
theorem clsOne_eq (x : T3) : clsOne x = (pt x.1 && pt x.2.1 && !decide (x.2.1 < x.1) && !decide (x.2.2 < 1) && !decide (254 < x.2.2)) := by
  unfold clsOne
  rw [Bool.eq_iff_iff]
  simp only [Bool.and_eq_true, decide_eq_true_eq, Bool.not_eq_true', decide_eq_false_iff_not, Int.not_lt]
theorem decOne_eq (x : T3) : decOne x = (pt x.1 && pt x.2.1 && pt x.2.2 && !(x.2.1 == 0) && !(decide (44032 ≤ x.1) && decide (x.1 ≤ 55203)) && !told x.1) := by
  unfold decOne
  rw [Bool.eq_iff_iff]
  simp only [Bool.and_eq_true, decide_eq_true_eq, Bool.not_eq_true', beq_eq_false_iff_ne, ne_eq]

set_option maxHeartbeats 16000000 in
set_option maxRecDepth 100000 in
theorem rcheck_any (R Rc : Nat → Prop) (c d : List T3) (u v : Value) (w : World) (hu : TrisIn Rc .i64 w u c) (hv : TrisIn R .i32 w v d) :
    Calls Tryz.prog 39 #[u, v] w (CkTold (dataOk c d) w) := by
  have HU := Lib.hid hu
  have HV := Lib.hid hv
  obtain ⟨q, cq, rfl, hcq, _⟩ := hu
  obtain ⟨p, cp, rfl, hcp, _⟩ := hv
  have hmx : c.length ≤ 9223372036854775807 ∧ d.length ≤ 9223372036854775807 := by unfold maxLen at hcp hcq; omega
  by_cases hcl : c.length ≤ 4000
  case neg =>
    have d1 : decide ((4000 : Int) < (c.length : Int)) = true := decide_eq_true (by omega)
    have d2 : decide (4000 < c.length) = true := decide_eq_true (by omega)
    have HF := Lib.hid (data_bad (c := c) (d := d) (fun h => hcl h.1))
    clear hcl
    go_enter Tryz.func39, Tryz.ntmps39
    go_wp2_with fail
    go_ret
    exact CkTold.no 2 HF.out (by decide) (Below.refl _ _)
  by_cases hl : d.length ≤ 8000
  case neg =>
    have d1 : decide ((4000 : Int) < (c.length : Int)) = false := decide_eq_false (by omega)
    have d2 : decide (4000 < c.length) = false := decide_eq_false (by omega)
    have d3 : decide ((8000 : Int) < (d.length : Int)) = true := decide_eq_true (by omega)
    have d4 : decide (8000 < d.length) = true := decide_eq_true (by omega)
    have HF := Lib.hid (data_bad (c := c) (d := d) (fun h => hl h.2.1))
    clear hcl hl
    go_enter Tryz.func39, Tryz.ntmps39
    go_wp2_with fail
    go_ret
    exact CkTold.no 2 HF.out (by decide) (Below.refl _ _)
  have d1 : decide ((4000 : Int) < (c.length : Int)) = false := decide_eq_false (by omega)
  have d2 : decide (4000 < c.length) = false := decide_eq_false (by omega)
  have d3 : decide ((8000 : Int) < (d.length : Int)) = false := decide_eq_false (by omega)
  have d4 : decide (8000 < d.length) = false := decide_eq_false (by omega)
  go_enter Tryz.func39, Tryz.ntmps39
  go_wp2_with fail
  go_loopw [23] (fun iv wr => ∃ i : Nat, iv = .int .i64 i ∧ i ≤ c.length ∧ (∀ j, j < i → clsAt c j) ∧ Below w.heap.size w wr) (fun iv _ => c.length - (intOf iv).toNat)
  case atStart => exact ⟨0, rfl, by omega, fun j hj => by omega, Below.refl _ _⟩
  case round =>
    obtain ⟨i, rfl, hi, hat, hb⟩ := hrel
    have HB := Lib.hid hb
    have HAT := Lib.hid hat
    by_cases hlt : i < c.length
    · have e1 : decide ((i : Int) < (c.length : Int)) = true := decide_eq_true (by omega)
      have e2 : decide (i < c.length) = true := decide_eq_true hlt
      have hx : c[i]? = some c[i] := List.getElem?_eq_getElem hlt
      generalize c[i] = x at hx
      obtain ⟨b, o, rfl, hbR, hbl, q0, q1, q2⟩ := (HU.out.kept (Kept.below hb)).at i x hx
      have HX := Lib.hid hx
      have HL := Lib.hid hlt
      rcases five (pt x.1) (pt x.2.1) (decide (x.2.1 < x.1)) (decide (x.2.2 < 1)) (decide (254 < x.2.2)) with hbad | hgood
      · have hone : clsOne x = false := by
          rw [clsOne_eq]
          rcases hbad with p1 | ⟨p1, p2⟩ | ⟨p1, p2, g1⟩ | ⟨p1, p2, g1, g2⟩ | ⟨p1, p2, g1, g2, g3⟩ <;> first | (rw [p1, p2, g1, g2, g3]; rfl) | (rw [p1, p2, g1, g2]; rfl) | (rw [p1, p2, g1]; rfl) | (rw [p1, p2]; rfl) | (rw [p1]; rfl)
        have HF : Hid (dataOk c d = false) := data_bad fun h => by
          have h5 := (clsFrom_at c none h.2.2.1 i x HX.out).1
          rw [hone] at h5; cases h5
        clear hone hx hlt hb hat
        rcases hbad with p1 | ⟨p1, p2⟩ | ⟨p1, p2, g1⟩ | ⟨p1, p2, g1, g2⟩ | ⟨p1, p2, g1, g2, g3⟩
        all_goals
          (go_wp2_with fail
           refine wp_region_over (by kernel_rfl) (by kernel_rfl) ?_; (repeat (go_big_quiet_step (((go_at_call 60; first | exact over_same (rscalar_yes _ _ (by assumption)) | exact over_same (rscalar_no _ _ (by assumption))))))); refine wpQuiet_nil ?_; intro w1 hb1
           go_wp2_with fail
           go_ret
           exact CkTold.no 51 HF.out (by decide) (HB.out.trans ((((Below.refl _ wr).alloc (Nat.le_refl _) _).trans (hb1.mono (by simp))).mono HB.out.size)))
      · have hone : clsOne x = true := by
          rw [clsOne_eq]
          obtain ⟨p1, p2, g1, g2, g3⟩ := hgood; rw [p1, p2, g1, g2, g3]; rfl
        by_cases h0 : i = 0
        · have g4 : decide ((0 : Int) < (i : Int)) = false := decide_eq_false (by omega)
          have g5 : decide (0 < i) = false := decide_eq_false (by omega)
          have HAI : Hid (clsAt c i) := fun z hz => by
            rw [HX.out] at hz; cases hz
            exact ⟨hone, fun j y hj _ => by omega⟩
          clear hx hone hlt hb hat h0
          obtain ⟨p1, p2, g1, g2, g3⟩ := hgood
          all_goals
            (go_wp2_with fail
             refine wp_region_over (by kernel_rfl) (by kernel_rfl) ?_; (repeat (go_big_quiet_step (((go_at_call 60; first | exact over_same (rscalar_yes _ _ (by assumption)) | exact over_same (rscalar_no _ _ (by assumption))))))); refine wpQuiet_nil ?_; intro w1 hb1
             go_wp2_with fail
             go_roundw)
          all_goals first
            | exact ⟨i + 1, by go_num, by have := HL.out; omega, fun j hj => (by
                rcases Nat.lt_or_ge j i with h | h
                · exact HAT.out j h
                · obtain rfl : j = i := by omega
                  exact HAI.out), HB.out.trans ((((Below.refl _ wr).alloc (Nat.le_refl _) _).trans (hb1.mono (by simp))).mono HB.out.size)⟩
            | (have hq := HL.out; simp [intOf]; omega)
        · obtain ⟨j, hj⟩ : ∃ j, i = j + 1 := ⟨i - 1, by omega⟩
          have hij : (i : Int) - 1 = (j : Int) := by omega
          have hjl : j < c.length := by omega
          have g4 : decide ((0 : Int) < (i : Int)) = true := decide_eq_true (by omega)
          have g5 : decide (0 < i) = true := decide_eq_true (by omega)
          have hy : c[j]? = some c[j] := List.getElem?_eq_getElem hjl
          generalize c[j] = y at hy
          obtain ⟨_, _, e, _, _, r0, r1, r2⟩ := (HU.out.kept (Kept.below hb)).at j y hy
          cases e
          cases g6 : decide (x.1 ≤ y.2.1) with
          | true =>
            have HF : Hid (dataOk c d = false) := data_bad fun h => by
              have h5 := (clsFrom_at c none h.2.2.1 i x HX.out).2 y (by subst hj; exact hy)
              have := of_decide_eq_true g6
              omega
            clear hx hone hlt hb hat h0 hy hj
            obtain ⟨p1, p2, g1, g2, g3⟩ := hgood
            all_goals
              (go_wp2_with fail
               refine wp_region_over (by kernel_rfl) (by kernel_rfl) ?_; (repeat (go_big_quiet_step (((go_at_call 60; first | exact over_same (rscalar_yes _ _ (by assumption)) | exact over_same (rscalar_no _ _ (by assumption))))))); refine wpQuiet_nil ?_; intro w1 hb1
               go_wp2_with fail
               go_ret
               exact CkTold.no 51 HF.out (by decide) (HB.out.trans ((((Below.refl _ wr).alloc (Nat.le_refl _) _).trans (hb1.mono (by simp))).mono HB.out.size)))
          | false =>
            have HAI : Hid (clsAt c i) := fun z hz => by
              rw [HX.out] at hz; cases hz
              refine ⟨hone, fun j' y' hj' hy' => ?_⟩
              obtain rfl : j' = j := by omega
              rw [hy] at hy'; cases hy'
              have := of_decide_eq_false g6
              omega
            clear hx hone hlt hb hat h0 hy hj
            obtain ⟨p1, p2, g1, g2, g3⟩ := hgood
            all_goals
              (go_wp2_with fail
               refine wp_region_over (by kernel_rfl) (by kernel_rfl) ?_; (repeat (go_big_quiet_step (((go_at_call 60; first | exact over_same (rscalar_yes _ _ (by assumption)) | exact over_same (rscalar_no _ _ (by assumption))))))); refine wpQuiet_nil ?_; intro w1 hb1
               go_wp2_with fail
               go_roundw)
            all_goals first
              | exact ⟨i + 1, by go_num, by have := HL.out; omega, fun j hj => (by
                  rcases Nat.lt_or_ge j i with h | h
                  · exact HAT.out j h
                  · obtain rfl : j = i := by omega
                    exact HAI.out), HB.out.trans ((((Below.refl _ wr).alloc (Nat.le_refl _) _).trans (hb1.mono (by simp))).mono HB.out.size)⟩
              | (have hq := HL.out; simp [intOf]; omega)
    · have e1 : decide ((i : Int) < (c.length : Int)) = false := decide_eq_false (by omega)
      have e2 : decide (i < c.length) = false := decide_eq_false hlt
      have HC : Hid (clsFrom none c = true) := cls_all c (fun j z hz => HAT.out j (by have := (List.getElem?_eq_some_iff.1 hz).1; omega) z hz) none (fun _ _ _ h => by cases h)
      clear hlt hb hat HAT
      go_wp2_with fail
      go_loopw [73] (fun iv wr => ∃ i : Nat, iv = .int .i64 i ∧ i ≤ d.length ∧ (∀ j, j < i → decAt d j) ∧ Below w.heap.size w wr) (fun iv _ => d.length - (intOf iv).toNat)
      case atStart => exact ⟨0, rfl, by omega, fun j hj => by omega, HB.out⟩
      case round =>
        obtain ⟨i, rfl, hi, hat, hb⟩ := hrel
        have HB := Lib.hid hb
        have HAT := Lib.hid hat
        by_cases hlt : i < d.length
        · have e1 : decide ((i : Int) < (d.length : Int)) = true := decide_eq_true (by omega)
          have e2 : decide (i < d.length) = true := decide_eq_true hlt
          have hx : d[i]? = some d[i] := List.getElem?_eq_getElem hlt
          generalize d[i] = x at hx
          obtain ⟨b, o, rfl, hbR, hbl, q0, q1, q2⟩ := (HV.out.kept (Kept.below hb)).at i x hx
          have HX := Lib.hid hx
          have HL := Lib.hid hlt
          rcases seven (pt x.1) (pt x.2.1) (pt x.2.2) (x.2.1 == 0) (decide (44032 ≤ x.1)) (decide (x.1 ≤ 55203)) (told x.1) with hbad | hgood
          · have hone : decOne x = false := by
              rw [decOne_eq]
              rcases hbad with p1 | ⟨p1, p2⟩ | ⟨p1, p2, p3⟩ | ⟨p1, p2, p3, a0⟩ | ⟨p1, p2, p3, a0, c1, c2⟩ | ⟨p1, p2, p3, a0, c1, c3⟩ | ⟨p1, p2, p3, a0, c1, c2, c3⟩ <;> first | (rw [p1, p2, p3, a0, c1, c2, c3]; rfl) | (rw [p1, p2, p3, a0, c1, c3]; rfl) | (rw [p1, p2, p3, a0, c1, c2]; rfl) | (rw [p1, p2, p3, a0]; rfl) | (rw [p1, p2, p3]; rfl) | (rw [p1, p2]; rfl) | (rw [p1]; rfl)
            have HF : Hid (dataOk c d = false) := data_bad fun h => by
              have h5 := (decFrom_at d none h.2.2.2.1 i x HX.out).1
              rw [hone] at h5; cases h5
            clear hone hx hlt hb hat
            rcases hbad with p1 | ⟨p1, p2⟩ | ⟨p1, p2, p3⟩ | ⟨p1, p2, p3, a0⟩ | ⟨p1, p2, p3, a0, c1, c2⟩ | ⟨p1, p2, p3, a0, c1, c3⟩ | ⟨p1, p2, p3, a0, c1, c2, c3⟩
            all_goals
              (go_wp2_with fail
               refine wp_region_over (by kernel_rfl) (by kernel_rfl) ?_; (repeat (go_big_quiet_step (((first | (go_at_call 60; first | exact over_same (rscalar_yes _ _ (by assumption)) | exact over_same (rscalar_no _ _ (by assumption))) | (go_at_call 76; first | exact over_same (told_yes _ _ (by assumption)) | exact over_same (told_no _ _ (by assumption)))))))); refine wpQuiet_nil ?_; intro w1 hb1
               go_wp2_with fail
               go_ret
               exact CkTold.no 52 HF.out (by decide) (HB.out.trans ((((Below.refl _ wr).alloc (Nat.le_refl _) _).trans (hb1.mono (by simp))).mono HB.out.size)))
          · have hone : decOne x = true := by
              rw [decOne_eq]
              rcases hgood with ⟨p1, p2, p3, a0, c1, c3⟩ | ⟨p1, p2, p3, a0, c1, c2, c3⟩ <;> first | (rw [p1, p2, p3, a0, c1, c3]; rfl) | (rw [p1, p2, p3, a0, c1, c2, c3]; rfl)
            by_cases h0 : i = 0
            · have g4 : decide ((0 : Int) < (i : Int)) = false := decide_eq_false (by omega)
              have g5 : decide (0 < i) = false := decide_eq_false (by omega)
              have HAI : Hid (decAt d i) := fun z hz => by
                rw [HX.out] at hz; cases hz
                exact ⟨hone, fun j y hj _ => by omega⟩
              clear hx hone hlt hb hat h0
              rcases hgood with ⟨p1, p2, p3, a0, c1, c3⟩ | ⟨p1, p2, p3, a0, c1, c2, c3⟩
              all_goals
                (go_wp2_with fail
                 refine wp_region_over (by kernel_rfl) (by kernel_rfl) ?_; (repeat (go_big_quiet_step (((first | (go_at_call 60; first | exact over_same (rscalar_yes _ _ (by assumption)) | exact over_same (rscalar_no _ _ (by assumption))) | (go_at_call 76; first | exact over_same (told_yes _ _ (by assumption)) | exact over_same (told_no _ _ (by assumption)))))))); refine wpQuiet_nil ?_; intro w1 hb1
                 go_wp2_with fail
                 go_roundw)
              all_goals first
                | exact ⟨i + 1, by go_num, by have := HL.out; omega, fun j hj => (by
                    rcases Nat.lt_or_ge j i with h | h
                    · exact HAT.out j h
                    · obtain rfl : j = i := by omega
                      exact HAI.out), HB.out.trans ((((Below.refl _ wr).alloc (Nat.le_refl _) _).trans (hb1.mono (by simp))).mono HB.out.size)⟩
                | (have hq := HL.out; simp [intOf]; omega)
            · obtain ⟨j, hj⟩ : ∃ j, i = j + 1 := ⟨i - 1, by omega⟩
              have hij : (i : Int) - 1 = (j : Int) := by omega
              have hjl : j < d.length := by omega
              have g4 : decide ((0 : Int) < (i : Int)) = true := decide_eq_true (by omega)
              have g5 : decide (0 < i) = true := decide_eq_true (by omega)
              have hy : d[j]? = some d[j] := List.getElem?_eq_getElem hjl
              generalize d[j] = y at hy
              obtain ⟨_, _, e, _, _, r0, r1, r2⟩ := (HV.out.kept (Kept.below hb)).at j y hy
              cases e
              cases g6 : decide (x.1 ≤ y.1) with
              | true =>
                have HF : Hid (dataOk c d = false) := data_bad fun h => by
                  have h5 := (decFrom_at d none h.2.2.2.1 i x HX.out).2 y (by subst hj; exact hy)
                  have := of_decide_eq_true g6
                  omega
                clear hx hone hlt hb hat h0 hy hj
                rcases hgood with ⟨p1, p2, p3, a0, c1, c3⟩ | ⟨p1, p2, p3, a0, c1, c2, c3⟩
                all_goals
                  (go_wp2_with fail
                   refine wp_region_over (by kernel_rfl) (by kernel_rfl) ?_; (repeat (go_big_quiet_step (((first | (go_at_call 60; first | exact over_same (rscalar_yes _ _ (by assumption)) | exact over_same (rscalar_no _ _ (by assumption))) | (go_at_call 76; first | exact over_same (told_yes _ _ (by assumption)) | exact over_same (told_no _ _ (by assumption)))))))); refine wpQuiet_nil ?_; intro w1 hb1
                   go_wp2_with fail
                   go_ret
                   exact CkTold.no 52 HF.out (by decide) (HB.out.trans ((((Below.refl _ wr).alloc (Nat.le_refl _) _).trans (hb1.mono (by simp))).mono HB.out.size)))
              | false =>
                have HAI : Hid (decAt d i) := fun z hz => by
                  rw [HX.out] at hz; cases hz
                  refine ⟨hone, fun j' y' hj' hy' => ?_⟩
                  obtain rfl : j' = j := by omega
                  rw [hy] at hy'; cases hy'
                  have := of_decide_eq_false g6
                  omega
                clear hx hone hlt hb hat h0 hy hj
                rcases hgood with ⟨p1, p2, p3, a0, c1, c3⟩ | ⟨p1, p2, p3, a0, c1, c2, c3⟩
                all_goals
                  (go_wp2_with fail
                   refine wp_region_over (by kernel_rfl) (by kernel_rfl) ?_; (repeat (go_big_quiet_step (((first | (go_at_call 60; first | exact over_same (rscalar_yes _ _ (by assumption)) | exact over_same (rscalar_no _ _ (by assumption))) | (go_at_call 76; first | exact over_same (told_yes _ _ (by assumption)) | exact over_same (told_no _ _ (by assumption)))))))); refine wpQuiet_nil ?_; intro w1 hb1
                   go_wp2_with fail
                   go_roundw)
                all_goals first
                  | exact ⟨i + 1, by go_num, by have := HL.out; omega, fun j hj => (by
                      rcases Nat.lt_or_ge j i with h | h
                      · exact HAT.out j h
                      · obtain rfl : j = i := by omega
                        exact HAI.out), HB.out.trans ((((Below.refl _ wr).alloc (Nat.le_refl _) _).trans (hb1.mono (by simp))).mono HB.out.size)⟩
                  | (have hq := HL.out; simp [intOf]; omega)
        · have e1 : decide ((i : Int) < (d.length : Int)) = false := decide_eq_false (by omega)
          have e2 : decide (i < d.length) = false := decide_eq_false hlt
          have HD : Hid (decFrom none d = true) := dec_all d (fun j z hz => HAT.out j (by have := (List.getElem?_eq_some_iff.1 hz).1; omega) z hz) none (fun _ _ _ h => by cases h)
          clear hlt hb hat HAT
          go_wp2_with fail
          go_loopw [132] (fun iv wr => ∃ i : Nat, iv = .int .i64 i ∧ i ≤ d.length ∧ (∀ (j : Nat) (x : T3), j < i → d[j]? = some x → decTwo c d x = true) ∧ Below w.heap.size w wr) (fun iv _ => d.length - (intOf iv).toNat)
          case atStart => exact ⟨0, rfl, by omega, fun j x hj => by omega, HB.out⟩
          case round =>
            obtain ⟨m, rfl, hm, hat, hb⟩ := hrel
            have HB := Lib.hid hb
            have HAT := Lib.hid hat
            by_cases hlt : m < d.length
            · have e1 : decide ((m : Int) < (d.length : Int)) = true := decide_eq_true (by omega)
              have e2 : decide (m < d.length) = true := decide_eq_true hlt
              have hx : d[m]? = some d[m] := List.getElem?_eq_getElem hlt
              generalize d[m] = x at hx
              obtain ⟨b, o, rfl, hbR, hbl, q0, q1, q2⟩ := (HV.out.kept (Kept.below hb)).at m x hx
              have HX := Lib.hid hx
              have HL := Lib.hid hlt
              have HBAD : Hid (decTwo c d x = false → dataOk c d = false) := fun h2 => data_bad fun h => by
                have := h.2.2.2.2 x (List.mem_of_getElem? HX.out)
                rw [h2] at this; cases this
              have HNEXT : Hid (decTwo c d x = true → ∀ (j : Nat) (y : T3), j < m + 1 → d[j]? = some y → decTwo c d y = true) := fun h2 j y hj hy => by
                rcases Nat.lt_or_ge j m with h | h
                · exact HAT.out j y h hy
                · obtain rfl : j = m := by omega
                  rw [HX.out] at hy; cases hy; exact h2
              clear hx hlt hb hat HAT HX
              by_cases h0 : x.2.2 = 0
              · have b1 : (x.2.2 != 0) = false := by rw [h0]; rfl
                have HB0 : Hid ((x.2.2 == 0 || ((dOne d x.2.2).isNone && decide (hang x.2.2 = []))) = true) := by show _ = _; rw [h0]; rfl
                clear h0
                go_wp2_with fail
                have hal : Below wr.heap.size wr (wr.alloc (.cells #[.int .i32 x.1, .int .i32 x.2.1, .int .i32 x.2.2] 94)) := (Below.refl _ wr).alloc (Nat.le_refl _) _
                have HBA : Hid (Below w.heap.size w (wr.alloc (.cells #[.int .i32 x.1, .int .i32 x.2.1, .int .i32 x.2.2] 94))) := HB.out.trans (hal.mono HB.out.size)
                have hnew : (wr.alloc (.cells #[.int .i32 x.1, .int .i32 x.2.1, .int .i32 x.2.2] 94)).heap[wr.heap.size]? = some (.cells #[.int .i32 x.1, .int .i32 x.2.1, .int .i32 x.2.2] 94 (0, 0)) := World.alloc_heap_new _ _
                generalize wr.alloc (.cells #[.int .i32 x.1, .int .i32 x.2.1, .int .i32 x.2.2] 94) = wa at *
                generalize wr.heap.size = bx at *
                have HNA := Lib.hid hnew
                have hbx := (Array.getElem?_eq_some_iff.1 hnew).1
                have c0 : wa.cell? ⟨bx, 0, none⟩ = some (.int .i32 x.1) := by simp [World.cell?, hnew]
                have c2 : wa.cell? ⟨bx, 2, none⟩ = some (.int .i32 x.2.2) := by simp [World.cell?, hnew]
                clear hal hnew q0 q1 q2 HB
                have HDP : Hid (∀ W, Below w.heap.size w W → Calls Tryz.prog 79 #[.slice (some ⟨b, o, none⟩) d.length cp, .int .i32 x.1, .int .i64 4] W (DeepTold (deep d 4 x.1).1 (deep d 4 x.1).2 W)) := fun W h => rdeep_any R d _ hl 4 (by decide) x.1 W (HV.out.kept (Kept.below h))
                have HNE : Hid ((deep d 4 x.1).2 = true → (deep d 4 x.1).1 ≠ []) := fun h => deep_ne 4 x.1 h
                have HTWO : Hid (decTwo c d x = ((x.2.2 == 0 || ((dOne d x.2.2).isNone && decide (hang x.2.2 = []))) && (deep d 4 x.1).2 && (clsOf c x.1 == 0 || clsOf c ((deep d 4 x.1).1.getD 0 0) != 0))) := rfl
                generalize (deep d 4 x.1).1 = L at *
                generalize (deep d 4 x.1).2 = bb at *
                refine (HDP.out wa HBA.out).mono ?_
                rintro e w4 ⟨v4, rfl, hr4, hb4⟩
                have HB4 : Hid (Below w.heap.size w w4) := HBA.out.trans (hb4.mono HBA.out.size)
                have hn4 := (hb4.block _ (Array.getElem?_eq_some_iff.1 HNA.out).1).trans HNA.out
                have c04 : w4.cell? ⟨bx, 0, none⟩ = some (.int .i32 x.1) := by simp [World.cell?, hn4]
                have hbx4 : bx < w4.heap.size := (Array.getElem?_eq_some_iff.1 hn4).1
                cases bb with
                | false =>
                  have HF : Hid (dataOk c d = false) := HBAD.out (by rw [HTWO.out, HB0.out]; rfl)
                  clear hr4 hb4 hn4
                  go_wp2_with fail
                  go_ret
                  exact CkTold.no 52 HF.out (by decide) HB4.out
                | true =>
                  obtain ⟨n4, hn4'⟩ : ∃ n, L.length = n + 1 := ⟨L.length - 1, by have := List.length_pos_iff.2 (HNE.out rfl); omega⟩
                  obtain ⟨g, o4, c4, rfl, _, hg4, hc4⟩ := (runes_of_own hr4).place (by omega)
                  have hl0 : w4.cell? ⟨g, o4, none⟩ = some (.int .i32 (L.getD 0 0)) := hc4 0 _ (by rw [List.getD_eq_getElem?_getD, List.getElem?_eq_getElem (by omega)]; rfl)
                  have hca := rclass_any Rc c _ x.1 w4 (HU.out.kept (Kept.below HB4.out)) hcl
                  rw [hn4']
                  clear hr4 hb4 hc4 hn4
                  go_wp2_with fail
                  refine hca.mono ?_
                  rintro e w5 ⟨rfl, hb5⟩
                  have HB5 : Hid (Below w.heap.size w w5) := HB4.out.trans (hb5.mono HB4.out.size)
                  have hl5 : w5.cell? ⟨g, o4, none⟩ = some (.int .i32 (L.getD 0 0)) := (hb5.cell (p := ⟨g, o4, none⟩) hg4).trans hl0
                  have hg5 : g < w5.heap.size := by have := hb5.size; omega
                  have hcb := rclass_any Rc c _ (L.getD 0 0) w5 (HU.out.kept (Kept.below HB5.out)) hcl
                  generalize L.getD 0 0 = l0 at *
                  generalize clsOf c x.1 = k1 at *
                  generalize clsOf c l0 = k2 at *
                  clear hca hb5 hl0 c04
                  cases f1 : (k1 != 0) with
                  | false =>
                    have HT : Hid (decTwo c d x = true) := by
                      show _ = _
                      have : (k1 == 0) = true := by simpa using f1
                      rw [HTWO.out, HB0.out, this]; rfl
                    go_wp2_with fail
                    go_roundw
                    case rel => exact ⟨m + 1, by go_num, by have := HL.out; omega, HNEXT.out HT.out, HB5.out⟩
                    case measure => (have hq := HL.out; simp [intOf]; omega)
                  | true =>
                    go_wp2_with fail
                    refine hcb.mono ?_
                    rintro e w6 ⟨rfl, hb6⟩
                    have HB6 : Hid (Below w.heap.size w w6) := HB5.out.trans (hb6.mono HB5.out.size)
                    have f3 : (k1 == 0) = false := by simpa using f1
                    have HF3 := Lib.hid f3
                    clear hcb hb6 f3
                    cases f2 : (k2 == 0) with
                    | true =>
                      have HF : Hid (dataOk c d = false) := HBAD.out (by
                        have : (k2 != 0) = false := by simpa using f2
                        rw [HTWO.out, HB0.out, HF3.out, this]; rfl)
                      go_wp2_with fail
                      go_ret
                      exact CkTold.no 52 HF.out (by decide) HB6.out
                    | false =>
                      have HT : Hid (decTwo c d x = true) := by
                        show _ = _
                        have : (k2 != 0) = true := by simpa using f2
                        rw [HTWO.out, HB0.out, HF3.out, this]; rfl
                      go_wp2_with fail
                      go_roundw
                      case rel => exact ⟨m + 1, by go_num, by have := HL.out; omega, HNEXT.out HT.out, HB6.out⟩
                      case measure => (have hq := HL.out; simp [intOf]; omega)
              · have b1 : (x.2.2 != 0) = true := by simpa using h0
                have b0 : (x.2.2 == 0) = false := by simpa using h0
                have HB0 := Lib.hid b0
                clear h0 b0
                go_wp2_with fail
                have hal : Below wr.heap.size wr (wr.alloc (.cells #[.int .i32 x.1, .int .i32 x.2.1, .int .i32 x.2.2] 94)) := (Below.refl _ wr).alloc (Nat.le_refl _) _
                have HBA : Hid (Below w.heap.size w (wr.alloc (.cells #[.int .i32 x.1, .int .i32 x.2.1, .int .i32 x.2.2] 94))) := HB.out.trans (hal.mono HB.out.size)
                have hnew : (wr.alloc (.cells #[.int .i32 x.1, .int .i32 x.2.1, .int .i32 x.2.2] 94)).heap[wr.heap.size]? = some (.cells #[.int .i32 x.1, .int .i32 x.2.1, .int .i32 x.2.2] 94 (0, 0)) := World.alloc_heap_new _ _
                generalize wr.alloc (.cells #[.int .i32 x.1, .int .i32 x.2.1, .int .i32 x.2.2] 94) = wa at *
                generalize wr.heap.size = bx at *
                have HNA := Lib.hid hnew
                have hbx := (Array.getElem?_eq_some_iff.1 hnew).1
                have c0 : wa.cell? ⟨bx, 0, none⟩ = some (.int .i32 x.1) := by simp [World.cell?, hnew]
                have c2 : wa.cell? ⟨bx, 2, none⟩ = some (.int .i32 x.2.2) := by simp [World.cell?, hnew]
                clear hal hnew q0 q1 q2 HB
                have HDP : Hid (∀ W, Below w.heap.size w W → Calls Tryz.prog 79 #[.slice (some ⟨b, o, none⟩) d.length cp, .int .i32 x.1, .int .i64 4] W (DeepTold (deep d 4 x.1).1 (deep d 4 x.1).2 W)) := fun W h => rdeep_any R d _ hl 4 (by decide) x.1 W (HV.out.kept (Kept.below h))
                have HNE : Hid ((deep d 4 x.1).2 = true → (deep d 4 x.1).1 ≠ []) := fun h => deep_ne 4 x.1 h
                have HTWO : Hid (decTwo c d x = ((x.2.2 == 0 || ((dOne d x.2.2).isNone && decide (hang x.2.2 = []))) && (deep d 4 x.1).2 && (clsOf c x.1 == 0 || clsOf c ((deep d 4 x.1).1.getD 0 0) != 0))) := rfl
                generalize (deep d 4 x.1).1 = L at *
                generalize (deep d 4 x.1).2 = bb at *
                have hst := rstep_any R d _ x.2.2 wa (HV.out.kept (Kept.below HBA.out)) hl
                refine hst.mono ?_
                rintro e wb ⟨k, rfl, hk, hbb⟩
                have HBB : Hid (Below w.heap.size w wb) := HBA.out.trans (hbb.mono HBA.out.size)
                have hnb := (hbb.block _ hbx).trans HNA.out
                have HNB := Lib.hid hnb
                have hbx' : bx < wb.heap.size := by have := hbb.size; omega
                have c0b : wb.cell? ⟨bx, 0, none⟩ = some (.int .i32 x.1) := by simp [World.cell?, hnb]
                have c2b : wb.cell? ⟨bx, 2, none⟩ = some (.int .i32 x.2.2) := by simp [World.cell?, hnb]
                clear hst hbb hnb c0 c2 HNA HBA hbx
                obtain ⟨rfl, hnone⟩ | ⟨i2, y, rfl, _, hsome⟩ := hk
                case inr =>
                  have e3 : decide ((0 : Int) ≤ (i2 : Int)) = true := decide_eq_true (by omega)
                  have HF : Hid (dataOk c d = false) := HBAD.out (by rw [HTWO.out, HB0.out, hsome]; rfl)
                  clear hsome
                  go_wp2_with fail
                  go_ret
                  exact CkTold.no 52 HF.out (by decide) HBB.out
                have HNONE := Lib.hid hnone
                clear hnone
                by_cases hh : 44032 ≤ x.2.2 ∧ x.2.2 ≤ 55203
                · have HF : Hid (dataOk c d = false) := HBAD.out (by
                    obtain ⟨n, hn⟩ := hang_len x.2.2 hh.1 hh.2
                    have : decide (hang x.2.2 = []) = false := decide_eq_false (fun h => by rw [h] at hn; simp at hn)
                    rw [HTWO.out, HB0.out, HNONE.out, this]; rfl)
                  have hhy := rhangul_yes x.2.2 hh.1 hh.2 wb
                  have HLN := Lib.hid (hang_len x.2.2 hh.1 hh.2)
                  clear hh
                  go_wp2_with fail
                  refine hhy.mono ?_
                  rintro e w3 ⟨v3, rfl, hr3, hb3⟩
                  obtain ⟨n3, hn3⟩ := HLN.out
                  rw [hn3] at hr3
                  obtain ⟨g3, cap3, rfl⟩ := ownsRow_succ hr3
                  have HB3 : Hid (Below w.heap.size w w3) := HBB.out.trans (hb3.mono HBB.out.size)
                  clear hhy hr3 hb3 hn3
                  go_wp2_with fail
                  go_ret
                  exact CkTold.no 52 HF.out (by decide) HB3.out
                · have hout : x.2.2 < 44032 ∨ 55203 < x.2.2 := by omega
                  have HB2 : Hid ((x.2.2 == 0 || ((dOne d x.2.2).isNone && decide (hang x.2.2 = []))) = true) := by
                    show _ = _
                    rw [HNONE.out, hang_no hout]; simp
                  have hhy := rhangul_no x.2.2 hout wb
                  clear hh hout
                  go_wp2_with fail
                  refine hhy.mono ?_
                  rintro e w3 ⟨rfl, rfl⟩
                  clear hhy
                  go_wp2_with fail
                  refine (HDP.out wb HBB.out).mono ?_
                  rintro e w4 ⟨v4, rfl, hr4, hb4⟩
                  have HB4 : Hid (Below w.heap.size w w4) := HBB.out.trans (hb4.mono HBB.out.size)
                  have hn4 := (hb4.block _ (Array.getElem?_eq_some_iff.1 HNB.out).1).trans HNB.out
                  have c04 : w4.cell? ⟨bx, 0, none⟩ = some (.int .i32 x.1) := by simp [World.cell?, hn4]
                  have hbx4 : bx < w4.heap.size := (Array.getElem?_eq_some_iff.1 hn4).1
                  cases bb with
                  | false =>
                    have HF : Hid (dataOk c d = false) := HBAD.out (by rw [HTWO.out, HB2.out]; rfl)
                    clear hr4 hb4 hn4
                    go_wp2_with fail
                    go_ret
                    exact CkTold.no 52 HF.out (by decide) HB4.out
                  | true =>
                    obtain ⟨n4, hn4'⟩ : ∃ n, L.length = n + 1 := ⟨L.length - 1, by have := List.length_pos_iff.2 (HNE.out rfl); omega⟩
                    obtain ⟨g, o4, c4, rfl, _, hg4, hc4⟩ := (runes_of_own hr4).place (by omega)
                    have hl0 : w4.cell? ⟨g, o4, none⟩ = some (.int .i32 (L.getD 0 0)) := hc4 0 _ (by rw [List.getD_eq_getElem?_getD, List.getElem?_eq_getElem (by omega)]; rfl)
                    have hca := rclass_any Rc c _ x.1 w4 (HU.out.kept (Kept.below HB4.out)) hcl
                    rw [hn4']
                    clear hr4 hb4 hc4 hn4
                    go_wp2_with fail
                    refine hca.mono ?_
                    rintro e w5 ⟨rfl, hb5⟩
                    have HB5 : Hid (Below w.heap.size w w5) := HB4.out.trans (hb5.mono HB4.out.size)
                    have hl5 : w5.cell? ⟨g, o4, none⟩ = some (.int .i32 (L.getD 0 0)) := (hb5.cell (p := ⟨g, o4, none⟩) hg4).trans hl0
                    have hg5 : g < w5.heap.size := by have := hb5.size; omega
                    have hcb := rclass_any Rc c _ (L.getD 0 0) w5 (HU.out.kept (Kept.below HB5.out)) hcl
                    generalize L.getD 0 0 = l0 at *
                    generalize clsOf c x.1 = k1 at *
                    generalize clsOf c l0 = k2 at *
                    clear hca hb5 hl0 c04
                    cases f1 : (k1 != 0) with
                    | false =>
                      have HT : Hid (decTwo c d x = true) := by
                        show _ = _
                        have : (k1 == 0) = true := by simpa using f1
                        rw [HTWO.out, HB2.out, this]; rfl
                      go_wp2_with fail
                      go_roundw
                      case rel => exact ⟨m + 1, by go_num, by have := HL.out; omega, HNEXT.out HT.out, HB5.out⟩
                      case measure => (have hq := HL.out; simp [intOf]; omega)
                    | true =>
                      go_wp2_with fail
                      refine hcb.mono ?_
                      rintro e w6 ⟨rfl, hb6⟩
                      have HB6 : Hid (Below w.heap.size w w6) := HB5.out.trans (hb6.mono HB5.out.size)
                      have f3 : (k1 == 0) = false := by simpa using f1
                      have HF3 := Lib.hid f3
                      clear hcb hb6 f3
                      cases f2 : (k2 == 0) with
                      | true =>
                        have HF : Hid (dataOk c d = false) := HBAD.out (by
                          have : (k2 != 0) = false := by simpa using f2
                          rw [HTWO.out, HB2.out, HF3.out, this]; rfl)
                        go_wp2_with fail
                        go_ret
                        exact CkTold.no 52 HF.out (by decide) HB6.out
                      | false =>
                        have HT : Hid (decTwo c d x = true) := by
                          show _ = _
                          have : (k2 != 0) = true := by simpa using f2
                          rw [HTWO.out, HB2.out, HF3.out, this]; rfl
                        go_wp2_with fail
                        go_roundw
                        case rel => exact ⟨m + 1, by go_num, by have := HL.out; omega, HNEXT.out HT.out, HB6.out⟩
                        case measure => (have hq := HL.out; simp [intOf]; omega)
            · have e1 : decide ((m : Int) < (d.length : Int)) = false := decide_eq_false (by omega)
              have e2 : decide (m < d.length) = false := decide_eq_false hlt
              have HOK : Hid (dataOk c d = true) := data_good ⟨hcl, hl, HC.out, HD.out, fun x hx => by
                obtain ⟨j, hj⟩ := List.getElem?_of_mem hx
                exact HAT.out j x (by have := (List.getElem?_eq_some_iff.1 hj).1; omega) hj⟩
              clear hlt hb hat HAT
              go_wp2_with fail
              go_ret
              exact ⟨0, rfl, by decide, .inl ⟨rfl, HOK.out⟩, HB.out⟩
end Go.Proofs.YtnglhgogkemgbaaGreatDoor
