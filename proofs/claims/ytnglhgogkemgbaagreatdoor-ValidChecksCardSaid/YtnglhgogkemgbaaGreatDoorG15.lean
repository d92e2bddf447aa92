/- Package norms: point, checkClasses of classes that may be. Package norms: the class of a code point, by binary search. Package norms: a decomposition by one step, by binary search. Package norms: classOf, one. Package norms: Hangul. Package norms: steps, whole. -/
import Derived.Test.YtnglhgogkemgbaaGreatDoorG13
import Derived.Test.YtnglhgogkemgbaaGreatDoorG14
/-! Package norms: point, checkClasses of classes that may be. -/
namespace Go.Proofs.YtnglhgogkemgbaaGreatDoor
open Go.RowKit

set_option maxHeartbeats 1000000 in
set_option maxRecDepth 100000 in
theorem point_any (r : Int) (w : World) :
    Calls Tryz.prog 130 #[.int .i32 r] w fun e w' => e = .returned (.bool (pt r)) ∧ w = w' := by
  go_enter Tryz.func130, Tryz.ntmps130
  go_wp2
  all_goals go_ret
  all_goals (refine ⟨?_, rfl⟩; simp_all [pt]; try omega)
set_option maxHeartbeats 1000000 in
set_option maxRecDepth 100000 in
theorem rscalar_any (r : Int) (w : World) :
    Calls Tryz.prog 60 #[.int .i32 r] w fun e w' => e = .returned (.bool (pt r)) ∧ w = w' := by
  go_enter Tryz.func60, Tryz.ntmps60
  go_wp2
  all_goals go_ret
  all_goals (refine ⟨?_, rfl⟩; simp_all [pt]; try omega)

theorem point_yes (r : Int) (w : World) (h : pt r = true) : Calls Tryz.prog 130 #[.int .i32 r] w fun e w' => e = .returned (.bool true) ∧ w = w' := by rw [← h]; exact point_any r w
theorem rscalar_yes (r : Int) (w : World) (h : pt r = true) : Calls Tryz.prog 60 #[.int .i32 r] w fun e w' => e = .returned (.bool true) ∧ w = w' := by rw [← h]; exact rscalar_any r w
set_option maxHeartbeats 4000000 in
set_option maxRecDepth 100000 in
theorem checkClasses_ok (R : Nat → Prop) (c : List T3) (v : Value) (w : World) (hv : TrisIn R .i64 w v c) (hc : clsFrom none c = true) (hl : c.length ≤ 4000) :
    Calls Tryz.prog 91 #[v] w fun e w' => e = .returned (.int .i64 0) ∧ Below w.heap.size w w' := by
  have HV := Lib.hid hv
  obtain ⟨p, cp, rfl, hcp, _⟩ := hv
  have HC := Lib.hid hc
  have d1 : decide ((4000 : Int) < (c.length : Int)) = false := decide_eq_false (by omega)
  have d2 : decide (4000 < c.length) = false := decide_eq_false (by omega)
  clear hc
  go_enter Tryz.func91, Tryz.ntmps91
  go_wp2
  go_loopw [10] (fun iv wr => ∃ i : Nat, iv = .int .i64 i ∧ i ≤ c.length ∧ Below w.heap.size w wr) (fun iv _ => c.length - (intOf iv).toNat)
  case atStart => exact ⟨0, rfl, by omega, Below.refl _ _⟩
  case round =>
    obtain ⟨i, rfl, hi, hb⟩ := hrel
    have HB := Lib.hid hb
    by_cases hlt : i < c.length
    · have e1 : decide ((i : Int) < (c.length : Int)) = true := decide_eq_true (by omega)
      have e2 : decide (i < c.length) = true := decide_eq_true hlt
      have hx : c[i]? = some c[i] := List.getElem?_eq_getElem hlt
      generalize c[i] = x at hx
      obtain ⟨b, o, rfl, hbR, hbl, q0, q1, q2⟩ := (HV.out.kept (Kept.below hb)).at i x hx
      have hone := clsFrom_at c none HC.out i x hx
      have hx1 := hone.1
      unfold clsOne at hx1
      simp only [Bool.and_eq_true, decide_eq_true_eq] at hx1
      obtain ⟨⟨⟨⟨p1, p2⟩, x12⟩, x31⟩, x32⟩ := hx1
      have g1 : decide (x.2.1 < x.1) = false := decide_eq_false (by omega)
      have g2 : decide (x.2.2 < 1) = false := decide_eq_false (by omega)
      have g3 : decide (254 < x.2.2) = false := decide_eq_false (by omega)
      have HL := Lib.hid hlt
      by_cases h0 : i = 0
      · have g4 : decide ((0 : Int) < (i : Int)) = false := decide_eq_false (by omega)
        have g5 : decide (0 < i) = false := decide_eq_false (by omega)
        clear hx hone hlt hb h0
        go_wp2_with fail
        refine wp_region_over (by kernel_rfl) (by kernel_rfl) ?_; (repeat (go_big_quiet_step ((go_at_call 130; exact over_same (point_yes _ _ (by assumption)))))); refine wpQuiet_nil ?_; intro w1 hb1
        go_wp2_with fail
        go_roundw
        case rel => exact ⟨i + 1, by go_num, by have := HL.out; omega, HB.out.trans ((((Below.refl _ wr).alloc (Nat.le_refl _) _).trans (hb1.mono (by simp))).mono HB.out.size)⟩
        case measure => (have hq := HL.out; simp [intOf]; omega)
      · obtain ⟨j, hj⟩ : ∃ j, i = j + 1 := ⟨i - 1, by omega⟩
        have hij : (i : Int) - 1 = (j : Int) := by omega
        have hjl : j < c.length := by omega
        have g4 : decide ((0 : Int) < (i : Int)) = true := decide_eq_true (by omega)
        have g5 : decide (0 < i) = true := decide_eq_true (by omega)
        have hy : c[j]? = some c[j] := List.getElem?_eq_getElem hjl
        generalize c[j] = y at hy
        have hyx := hone.2 y (by rw [hj]; exact hy)
        obtain ⟨_, _, e, _, _, r0, r1, r2⟩ := (HV.out.kept (Kept.below hb)).at j y hy
        cases e
        have hbr := hbl
        have g6 : decide (x.1 ≤ y.2.1) = false := decide_eq_false (by omega)
        clear hx hone hlt hb h0 hy hyx hj
        go_wp2_with fail
        refine wp_region_over (by kernel_rfl) (by kernel_rfl) ?_; (repeat (go_big_quiet_step ((go_at_call 130; exact over_same (point_yes _ _ (by assumption)))))); refine wpQuiet_nil ?_; intro w1 hb1
        go_wp2_with fail
        go_roundw
        case rel => exact ⟨i + 1, by go_num, by have := HL.out; omega, HB.out.trans ((((Below.refl _ wr).alloc (Nat.le_refl _) _).trans (hb1.mono (by simp))).mono HB.out.size)⟩
        case measure => (have hq := HL.out; simp [intOf]; omega)
    · have e1 : decide ((i : Int) < (c.length : Int)) = false := decide_eq_false (by omega)
      have e2 : decide (i < c.length) = false := decide_eq_false hlt
      clear hlt hb
      go_wp2
      go_ret
      exact ⟨rfl, HB.out⟩
end Go.Proofs.YtnglhgogkemgbaaGreatDoor
/-! Package norms: the class of a code point, by binary search. -/
namespace Go.Proofs.YtnglhgogkemgbaaGreatDoor
open Go.RowKit

def clsCmp (x : T3) (r : Int) : Int := if r < x.1 then 1 else if x.2.1 < r then -1 else 0
set_option maxHeartbeats 1000000 in
set_option maxRecDepth 100000 in
theorem clsCmp_any (x : T3) (r : Int) (w : World) :
    Calls Tryz.prog 168 #[.agg #[.int .i32 x.1, .int .i32 x.2.1, .int .i64 x.2.2], .int .i32 r] w fun e w' => e = .returned (.int .i64 (clsCmp x r)) ∧ Below w.heap.size w w' := by
  go_enter Tryz.func168, Tryz.ntmps168
  go_wp2
  all_goals go_ret
  all_goals (refine ⟨?_, (Below.refl _ w).alloc (Nat.le_refl _) _⟩; simp_all [clsCmp]; try omega)
set_option maxHeartbeats 4000000 in
set_option maxRecDepth 100000 in
theorem clsSearch_any (R : Nat → Prop) (c : List T3) (v : Value) (r : Int) (w : World) (hv : TrisIn R .i64 w v c) (hc : clsFrom none c = true) (hl : c.length ≤ 4000) :
    Calls Tryz.prog 167 #[v, .int .i32 r, .func (.func 168) #[] #[]] w fun e w' =>
      ∃ (k : Nat) (b : Bool), e = .returned (.tuple #[.int .i64 k, .bool b]) ∧ (∀ i x, i < k → c[i]? = some x → x.2.1 < r) ∧ (∀ i x, k ≤ i → c[i]? = some x → r ≤ x.2.1) ∧ (b = match c[k]? with | some x => decide (x.1 ≤ r) && decide (r ≤ x.2.1) | none => false) ∧ Below w.heap.size w w' := by
  have HV := Lib.hid hv
  obtain ⟨p, cp, rfl, hcp, _⟩ := hv
  have HC := Lib.hid hc
  clear hc
  go_enter Tryz.func167, Tryz.ntmps167
  go_wp2_with fail
  go_loopw [9, 10] (fun iv jv wr => ∃ i j : Nat, iv = .int .i64 i ∧ jv = .int .i64 j ∧ i ≤ j ∧ j ≤ c.length ∧ (∀ a x, a < i → c[a]? = some x → x.2.1 < r) ∧ (∀ a x, j ≤ a → c[a]? = some x → r ≤ x.2.1) ∧ Below w.heap.size w wr) (fun iv jv _ => (intOf jv - intOf iv).toNat)
  case atStart => exact ⟨0, c.length, rfl, rfl, Nat.zero_le _, Nat.le_refl _, fun a x h => by omega, fun a x h hx => by have := (List.getElem?_eq_some_iff.1 hx).1; omega, Below.refl _ _⟩
  case round =>
    obtain ⟨i, j, rfl, rfl, hij, hj, hlo, hhi, hb⟩ := hrel
    have HB := Lib.hid hb
    have HLO := Lib.hid hlo
    have HHI := Lib.hid hhi
    clear hlo hhi
    by_cases hlt : i < j
    · have e1 : decide ((i : Int) < (j : Int)) = true := decide_eq_true (by omega)
      have e2 : decide (i < j) = true := decide_eq_true hlt
      obtain ⟨m, hm⟩ : ∃ m, m = (i + j) / 2 := ⟨_, rfl⟩
      have hmm : ((i : Int) + (j : Int)) / 2 = (m : Int) := by omega
      have him : i ≤ m := by omega
      have hmj : m < j := by omega
      have hml : m < c.length := by omega
      have hx : c[m]? = some c[m] := List.getElem?_eq_getElem hml
      generalize c[m] = x at hx
      obtain ⟨b, o, rfl, hbR, hbl, q0, q1, q2⟩ := (HV.out.kept (Kept.below hb)).at m x hx
      have hone := (clsFrom_at c none HC.out m x hx).1
      unfold clsOne at hone
      simp only [Bool.and_eq_true, decide_eq_true_eq] at hone
      have HX := Lib.hid hx
      have HIM := Lib.hid him
      have HMJ := Lib.hid hmj
      have hca := clsCmp_any x r
      obtain ⟨q, hq⟩ : ∃ q, q = clsCmp x r := ⟨_, rfl⟩
      rw [← hq] at hca
      by_cases hbelow : x.2.1 < r
      · have hqn : decide (q < 0) = true := by rw [hq]; unfold clsCmp; rw [if_neg (by omega), if_pos hbelow]; rfl
        have HBL := Lib.hid hbelow
        clear hm him hmj hx hone hlt hb hq hbelow
        go_wp2_with fail
        refine (hca _).mono ?_
        rintro e w1 ⟨rfl, hb1⟩
        go_wp2_with fail
        go_roundw
        case rel => exact ⟨m + 1, j, by go_num, rfl, by have := HMJ.out; omega, hj, fun a y ha hy => (by
            rcases Nat.lt_or_ge a m with h | h
            · have := cls_lt HC.out h hy HX.out
              have h1 := (clsFrom_at c none HC.out m x HX.out).1
              unfold clsOne at h1; simp at h1
              have := HBL.out; omega
            · obtain rfl : a = m := by omega
              rw [HX.out] at hy; cases hy; exact HBL.out), HHI.out, HB.out.trans (hb1.mono HB.out.size)⟩
        case measure => (have hq1 := HMJ.out; have hq2 := HIM.out; show ((j : Int) - ((m : Int) + 1)).toNat < ((j : Int) - (i : Int)).toNat; omega)
      · have hqn : decide (q < 0) = false := by
          rw [hq]; unfold clsCmp
          split
          · rfl
          · rfl
        have HBL := Lib.hid hbelow
        clear hm him hmj hx hone hlt hb hq hbelow
        go_wp2_with fail
        refine (hca _).mono ?_
        rintro e w1 ⟨rfl, hb1⟩
        go_wp2_with fail
        go_roundw
        case rel => exact ⟨i, m, rfl, by go_num, HIM.out, by have := HMJ.out; omega, HLO.out, fun a y ha hy => (by
            rcases Nat.lt_or_ge m a with h | h
            · have := cls_lt HC.out h HX.out hy
              have h1 := (clsFrom_at c none HC.out a y hy).1
              unfold clsOne at h1; simp at h1
              have := HBL.out; omega
            · obtain rfl : a = m := by omega
              rw [HX.out] at hy; cases hy; have := HBL.out; omega), HB.out.trans (hb1.mono HB.out.size)⟩
        case measure => (have hq1 := HMJ.out; have hq2 := HIM.out; show ((m : Int) - (i : Int)).toNat < ((j : Int) - (i : Int)).toNat; omega)
    · have e1 : decide ((i : Int) < (j : Int)) = false := decide_eq_false (by omega)
      have e2 : decide (i < j) = false := decide_eq_false hlt
      obtain rfl : i = j := by omega
      by_cases hin : i < c.length
      · have f1 : decide ((i : Int) < (c.length : Int)) = true := decide_eq_true (by omega)
        have f2 : decide (i < c.length) = true := decide_eq_true hin
        have hx : c[i]? = some c[i] := List.getElem?_eq_getElem hin
        generalize c[i] = x at hx
        obtain ⟨b, o, rfl, hbR, hbl, q0, q1, q2⟩ := (HV.out.kept (Kept.below hb)).at i x hx
        have hone := (clsFrom_at c none HC.out i x hx).1
        unfold clsOne at hone
        simp only [Bool.and_eq_true, decide_eq_true_eq] at hone
        have HX := Lib.hid hx
        have hca := clsCmp_any x r
        have hge := HHI.out i x (Nat.le_refl _) hx
        have hqe : (clsCmp x r == 0) = (decide (x.1 ≤ r) && decide (r ≤ x.2.1)) := by
          unfold clsCmp
          by_cases h1 : r < x.1
          · rw [if_pos h1, decide_eq_false (by omega : ¬ x.1 ≤ r)]; rfl
          · rw [if_neg h1, if_neg (by omega), decide_eq_true (by omega : x.1 ≤ r), decide_eq_true hge]; rfl
        clear hx hone hlt hb hge
        go_wp2_with fail
        refine (hca _).mono ?_
        rintro e w1 ⟨rfl, hb1⟩
        generalize clsCmp x r = q at *
        go_wp2_with fail
        go_ret2
        exact ⟨i, _, rfl, HLO.out, HHI.out, by rw [HX.out], HB.out.trans (hb1.mono HB.out.size)⟩
      · have f1 : decide ((i : Int) < (c.length : Int)) = false := decide_eq_false (by omega)
        have f2 : decide (i < c.length) = false := decide_eq_false hin
        have HX : Hid (c[i]? = none) := List.getElem?_eq_none (by omega)
        clear hlt hb hin
        go_wp2_with fail
        go_ret2
        exact ⟨i, false, rfl, HLO.out, HHI.out, by rw [HX.out], HB.out⟩
end Go.Proofs.YtnglhgogkemgbaaGreatDoor
/-! Package norms: a decomposition by one step, by binary search. -/
namespace Go.Proofs.YtnglhgogkemgbaaGreatDoor
open Go.RowKit

def decCmp (x : T3) (r : Int) : Int := x.1 - r
set_option maxHeartbeats 1000000 in
set_option maxRecDepth 100000 in
theorem decCmp_any (x : T3) (r : Int) (w : World) (hx : 0 ≤ x.1 ∧ x.1 ≤ 1114111) (hr : -2147483648 ≤ r ∧ r ≤ 2147483647) :
    Calls Tryz.prog 165 #[.agg #[.int .i32 x.1, .int .i32 x.2.1, .int .i32 x.2.2], .int .i32 r] w fun e w' => e = .returned (.int .i64 (decCmp x r)) ∧ Below w.heap.size w w' := by
  go_enter Tryz.func165, Tryz.ntmps165
  have hw : IntKind.i64.wrap (x.1 - r) = x.1 - r := IntWalk.i64_in _ (by omega)
  go_wp2
  go_ret
  exact ⟨rfl, (Below.refl _ w).alloc (Nat.le_refl _) _⟩
set_option maxHeartbeats 4000000 in
set_option maxRecDepth 100000 in
theorem decSearch_any (R : Nat → Prop) (d : List T3) (v : Value) (r : Int) (w : World) (hv : TrisIn R .i32 w v d) (hc : decFrom none d = true) (hl : d.length ≤ 8000) (hr : -2147483648 ≤ r ∧ r ≤ 2147483647) :
    Calls Tryz.prog 164 #[v, .int .i32 r, .func (.func 165) #[] #[]] w fun e w' =>
      ∃ (k : Nat) (b : Bool), e = .returned (.tuple #[.int .i64 k, .bool b]) ∧ (∀ i x, i < k → d[i]? = some x → x.1 < r) ∧ (∀ i x, k ≤ i → d[i]? = some x → r ≤ x.1) ∧ (b = match d[k]? with | some x => decide (x.1 = r) | none => false) ∧ Below w.heap.size w w' := by
  have HV := Lib.hid hv
  obtain ⟨p, cp, rfl, hcp, _⟩ := hv
  have HC := Lib.hid hc
  clear hc
  go_enter Tryz.func164, Tryz.ntmps164
  go_wp2_with fail
  go_loopw [9, 10] (fun iv jv wr => ∃ i j : Nat, iv = .int .i64 i ∧ jv = .int .i64 j ∧ i ≤ j ∧ j ≤ d.length ∧ (∀ a x, a < i → d[a]? = some x → x.1 < r) ∧ (∀ a x, j ≤ a → d[a]? = some x → r ≤ x.1) ∧ Below w.heap.size w wr) (fun iv jv _ => (intOf jv - intOf iv).toNat)
  case atStart => exact ⟨0, d.length, rfl, rfl, Nat.zero_le _, Nat.le_refl _, fun a x h => by omega, fun a x h hx => by have := (List.getElem?_eq_some_iff.1 hx).1; omega, Below.refl _ _⟩
  case round =>
    obtain ⟨i, j, rfl, rfl, hij, hj, hlo, hhi, hb⟩ := hrel
    have HB := Lib.hid hb
    have HLO := Lib.hid hlo
    have HHI := Lib.hid hhi
    clear hlo hhi
    by_cases hlt : i < j
    · have e1 : decide ((i : Int) < (j : Int)) = true := decide_eq_true (by omega)
      have e2 : decide (i < j) = true := decide_eq_true hlt
      obtain ⟨m, hm⟩ : ∃ m, m = (i + j) / 2 := ⟨_, rfl⟩
      have hmm : ((i : Int) + (j : Int)) / 2 = (m : Int) := by omega
      have him : i ≤ m := by omega
      have hmj : m < j := by omega
      have hml : m < d.length := by omega
      have hx : d[m]? = some d[m] := List.getElem?_eq_getElem hml
      generalize d[m] = x at hx
      obtain ⟨b, o, rfl, hbR, hbl, q0, q1, q2⟩ := (HV.out.kept (Kept.below hb)).at m x hx
      have hone := (decFrom_at d none HC.out m x hx).1
      unfold decOne at hone
      simp only [Bool.and_eq_true, decide_eq_true_eq] at hone
      have HX := Lib.hid hx
      have HIM := Lib.hid him
      have HMJ := Lib.hid hmj
      have hxb : 0 ≤ x.1 ∧ x.1 ≤ 1114111 := pt_bd hone.1.1.1.1.1
      have hca := fun w => decCmp_any x r w hxb hr
      obtain ⟨q, hq⟩ : ∃ q, q = decCmp x r := ⟨_, rfl⟩
      rw [← hq] at hca
      by_cases hbelow : x.1 < r
      · have hqn : decide (q < 0) = true := by rw [hq]; unfold decCmp; exact decide_eq_true (by omega)
        have HBL := Lib.hid hbelow
        clear hm him hmj hx hone hlt hb hq hbelow
        go_wp2_with fail
        refine (hca _).mono ?_
        rintro e w1 ⟨rfl, hb1⟩
        go_wp2_with fail
        go_roundw
        case rel => exact ⟨m + 1, j, by go_num, rfl, by have := HMJ.out; omega, hj, fun a y ha hy => (by
            rcases Nat.lt_or_ge a m with h | h
            · have := dec_lt HC.out h hy HX.out
              have := HBL.out; omega
            · obtain rfl : a = m := by omega
              rw [HX.out] at hy; cases hy; exact HBL.out), HHI.out, HB.out.trans (hb1.mono HB.out.size)⟩
        case measure => (have hq1 := HMJ.out; have hq2 := HIM.out; show ((j : Int) - ((m : Int) + 1)).toNat < ((j : Int) - (i : Int)).toNat; omega)
      · have hqn : decide (q < 0) = false := by rw [hq]; unfold decCmp; exact decide_eq_false (by omega)
        have HBL := Lib.hid hbelow
        clear hm him hmj hx hone hlt hb hq hbelow
        go_wp2_with fail
        refine (hca _).mono ?_
        rintro e w1 ⟨rfl, hb1⟩
        go_wp2_with fail
        go_roundw
        case rel => exact ⟨i, m, rfl, by go_num, HIM.out, by have := HMJ.out; omega, HLO.out, fun a y ha hy => (by
            rcases Nat.lt_or_ge m a with h | h
            · have := dec_lt HC.out h HX.out hy
              have := HBL.out; omega
            · obtain rfl : a = m := by omega
              rw [HX.out] at hy; cases hy; have := HBL.out; omega), HB.out.trans (hb1.mono HB.out.size)⟩
        case measure => (have hq1 := HMJ.out; have hq2 := HIM.out; show ((m : Int) - (i : Int)).toNat < ((j : Int) - (i : Int)).toNat; omega)
    · have e1 : decide ((i : Int) < (j : Int)) = false := decide_eq_false (by omega)
      have e2 : decide (i < j) = false := decide_eq_false hlt
      obtain rfl : i = j := by omega
      by_cases hin : i < d.length
      · have f1 : decide ((i : Int) < (d.length : Int)) = true := decide_eq_true (by omega)
        have f2 : decide (i < d.length) = true := decide_eq_true hin
        have hx : d[i]? = some d[i] := List.getElem?_eq_getElem hin
        generalize d[i] = x at hx
        obtain ⟨b, o, rfl, hbR, hbl, q0, q1, q2⟩ := (HV.out.kept (Kept.below hb)).at i x hx
        have hone := (decFrom_at d none HC.out i x hx).1
        unfold decOne at hone
        simp only [Bool.and_eq_true, decide_eq_true_eq] at hone
        have HX := Lib.hid hx
        have hxb : 0 ≤ x.1 ∧ x.1 ≤ 1114111 := pt_bd hone.1.1.1.1.1
        have hca := fun w => decCmp_any x r w hxb hr
        have hge := HHI.out i x (Nat.le_refl _) hx
        have hqe : (decCmp x r == 0) = decide (x.1 = r) := by
          unfold decCmp
          by_cases h1 : x.1 = r
          · rw [decide_eq_true h1, h1, Int.sub_self]; rfl
          · rw [decide_eq_false h1]; exact beq_eq_false_iff_ne.2 (by omega)
        clear hx hone hlt hb hge
        go_wp2_with fail
        refine (hca _).mono ?_
        rintro e w1 ⟨rfl, hb1⟩
        generalize decCmp x r = q at *
        go_wp2_with fail
        go_ret2
        exact ⟨i, _, rfl, HLO.out, HHI.out, by rw [HX.out], HB.out.trans (hb1.mono HB.out.size)⟩
      · have f1 : decide ((i : Int) < (d.length : Int)) = false := decide_eq_false (by omega)
        have f2 : decide (i < d.length) = false := decide_eq_false hin
        have HX : Hid (d[i]? = none) := List.getElem?_eq_none (by omega)
        clear hlt hb hin
        go_wp2_with fail
        go_ret2
        exact ⟨i, false, rfl, HLO.out, HHI.out, by rw [HX.out], HB.out⟩
end Go.Proofs.YtnglhgogkemgbaaGreatDoor
/-! Package norms: classOf, one. -/
namespace Go.Proofs.YtnglhgogkemgbaaGreatDoor
open Go.RowKit

theorem find_at {α : Type} (p : α → Bool) : ∀ (l : List α) (k : Nat) (x : α), l[k]? = some x → p x = true → (∀ (i : Nat) (y : α), i < k → l[i]? = some y → p y = false) → l.find? p = some x
  | [], _, _, h, _, _ => by simp at h
  | z :: zs, k, x, h, hp, hlo => by
    match k with
    | 0 =>
      simp only [List.getElem?_cons_zero, Option.some.injEq] at h
      subst h; simp [hp]
    | k + 1 =>
      have h0 := hlo 0 z (by omega) rfl
      rw [List.find?_cons_of_neg (by simp [h0])]
      exact find_at p zs k x (by simpa using h) hp (fun i y hi hy => hlo (i + 1) y (by omega) (by simpa using hy))
theorem find_no {α : Type} (p : α → Bool) (l : List α) (h : ∀ (i : Nat) (y : α), l[i]? = some y → p y = false) : l.find? p = none := by
  rw [List.find?_eq_none]
  intro x hx
  obtain ⟨i, hi⟩ := List.getElem?_of_mem hx
  simp [h i x hi]
theorem cls_found {c : List T3} {r : Int} {k : Nat} {b : Bool} (hc : clsFrom none c = true) (h1 : ∀ i x, i < k → c[i]? = some x → x.2.1 < r) (h2 : ∀ i x, k ≤ i → c[i]? = some x → r ≤ x.2.1) (h3 : b = match c[k]? with | some x => decide (x.1 ≤ r) && decide (r ≤ x.2.1) | none => false) :
    (b = true → ∃ x, c[k]? = some x ∧ clsOf c r = x.2.2) ∧ (b = false → clsOf c r = 0) := by
  have hlo : ∀ i y, i < k → c[i]? = some y → (decide (y.1 ≤ r) && decide (r ≤ y.2.1)) = false := fun i y hi hy => by
    have := h1 i y hi hy
    simp; omega
  constructor
  · rintro rfl
    cases hk : c[k]? with
    | none => rw [hk] at h3; cases h3
    | some x =>
      rw [hk] at h3
      refine ⟨x, rfl, ?_⟩
      unfold clsOf
      rw [find_at _ c k x hk h3.symm hlo]
  · rintro rfl
    unfold clsOf
    rw [find_no]
    intro i y hy
    rcases Nat.lt_trichotomy i k with h | rfl | h
    · exact hlo i y h hy
    · rw [hy] at h3; exact h3.symm
    · have hkl : k < c.length := by have := (List.getElem?_eq_some_iff.1 hy).1; omega
      have hk : c[k]? = some c[k] := List.getElem?_eq_getElem hkl
      have h4 := cls_lt hc h hk hy
      have h5 := h2 k _ (Nat.le_refl _) hk
      simp; omega
theorem dec_found {d : List T3} {r : Int} {k : Nat} {b : Bool} (hd : decFrom none d = true) (h1 : ∀ i x, i < k → d[i]? = some x → x.1 < r) (h2 : ∀ i x, k ≤ i → d[i]? = some x → r ≤ x.1) (h3 : b = match d[k]? with | some x => decide (x.1 = r) | none => false) :
    (b = true → ∃ x, d[k]? = some x ∧ dOne d r = some x) ∧ (b = false → dOne d r = none) := by
  have hlo : ∀ i y, i < k → d[i]? = some y → (y.1 == r) = false := fun i y hi hy => by
    have := h1 i y hi hy
    simp; omega
  constructor
  · rintro rfl
    cases hk : d[k]? with
    | none => rw [hk] at h3; cases h3
    | some x =>
      rw [hk] at h3
      exact ⟨x, rfl, find_at _ d k x hk (by simpa using h3.symm) hlo⟩
  · rintro rfl
    refine find_no _ _ fun i y hy => ?_
    rcases Nat.lt_trichotomy i k with h | rfl | h
    · exact hlo i y h hy
    · rw [hy] at h3; simpa using h3.symm
    · have hkl : k < d.length := by have := (List.getElem?_eq_some_iff.1 hy).1; omega
      have hk : d[k]? = some d[k] := List.getElem?_eq_getElem hkl
      have h4 := dec_lt hd h hk hy
      have h5 := h2 k _ (Nat.le_refl _) hk
      simp; omega
set_option maxHeartbeats 1000000 in
set_option maxRecDepth 100000 in
theorem classOf_any (R : Nat → Prop) (c : List T3) (v : Value) (r : Int) (w : World) (hv : TrisIn R .i64 w v c) (hc : clsFrom none c = true) (hl : c.length ≤ 4000) :
    Calls Tryz.prog 134 #[v, .int .i32 r] w fun e w' => e = .returned (.int .i64 (clsOf c r)) ∧ Below w.heap.size w w' := by
  have hs := clsSearch_any R c v r w hv hc hl
  have HV := Lib.hid hv
  obtain ⟨p, cp, rfl, hcp, _⟩ := hv
  have HC := Lib.hid hc
  clear hc
  go_enter Tryz.func134, Tryz.ntmps134
  go_wp2_with fail
  refine hs.mono ?_
  rintro e w1 ⟨k, b, rfl, h1, h2, h3, hb⟩
  obtain ⟨f1, f2⟩ := cls_found HC.out h1 h2 h3
  have HB := Lib.hid hb
  clear hs h1 h2 h3
  cases b
  · have hq := f2 rfl
    clear f1 f2 hb
    go_wp2_with fail
    go_ret
    exact ⟨by rw [hq]; rfl, HB.out⟩
  · obtain ⟨x, hx, hq⟩ := f1 rfl
    have hkl : k < c.length := (List.getElem?_eq_some_iff.1 hx).1
    obtain ⟨b, o, rfl, hbR, hbl, q0, q1, q2⟩ := (HV.out.kept (Kept.below hb)).at k x hx
    clear f1 f2 hb hx
    go_wp2_with fail
    go_ret
    exact ⟨by rw [hq]; rfl, HB.out⟩
def triAgg (x : T3) : Value := .agg #[.int .i32 x.1, .int .i32 x.2.1, .int .i32 x.2.2]
def oneAgg (o : Option T3) : Value := match o with | some x => triAgg x | none => triAgg (0, 0, 0)
set_option maxHeartbeats 1000000 in
set_option maxRecDepth 100000 in
theorem one_any (R : Nat → Prop) (d : List T3) (v : Value) (r : Int) (w : World) (hv : TrisIn R .i32 w v d) (hd : decFrom none d = true) (hl : d.length ≤ 8000) (hr : -2147483648 ≤ r ∧ r ≤ 2147483647) :
    Calls Tryz.prog 131 #[v, .int .i32 r] w fun e w' => e = .returned (.tuple #[oneAgg (dOne d r), .bool (dOne d r).isSome]) ∧ Below w.heap.size w w' := by
  have HV := Lib.hid hv
  have hal : Below w.heap.size w (w.alloc (.cells #[.int .i32 0, .int .i32 0, .int .i32 0] 94)) := (Below.refl _ w).alloc (Nat.le_refl _) _
  have hs := decSearch_any R d v r (w.alloc (.cells #[.int .i32 0, .int .i32 0, .int .i32 0] 94)) (hv.kept (Kept.below hal)) hd hl hr
  obtain ⟨p, cp, rfl, hcp, _⟩ := hv
  have HD := Lib.hid hd
  clear hd
  go_enter Tryz.func131, Tryz.ntmps131
  go_wp2_with fail
  refine hs.mono ?_
  rintro e w1 ⟨k, b, rfl, h1, h2, h3, hb⟩
  obtain ⟨f1, f2⟩ := dec_found HD.out h1 h2 h3
  have HB : Hid (Below w.heap.size w w1) := hal.trans (hb.mono (by simp))
  have rb : w1.heap[w.heap.size]? = some (.cells #[.int .i32 0, .int .i32 0, .int .i32 0] 94 (0, 0)) := (hb.block _ (by simp)).trans (World.alloc_heap_new _ _)
  have z0 : w1.cell? ⟨w.heap.size, 0, none⟩ = some (.int .i32 0) := by simp [World.cell?, rb]
  have z1 : w1.cell? ⟨w.heap.size, 1, none⟩ = some (.int .i32 0) := by simp [World.cell?, rb]
  have z2 : w1.cell? ⟨w.heap.size, 2, none⟩ = some (.int .i32 0) := by simp [World.cell?, rb]
  have y0 : w1.frozen? ⟨w.heap.size, 0, none⟩ = false := by simp [World.frozen?, rb]
  have y1 : w1.frozen? ⟨w.heap.size, 1, none⟩ = false := by simp [World.frozen?, rb]
  have y2 : w1.frozen? ⟨w.heap.size, 2, none⟩ = false := by simp [World.frozen?, rb]
  clear hs h1 h2 h3 hb rb
  cases b
  · have hq := f2 rfl
    clear f1 f2 hal
    go_wp2_with fail
    refine bodyPost_ret (v := .tuple #[triAgg (0, 0, 0), .bool false]) (by simp [results, Tryz.results131, go_sem, z0, z1, z2, triAgg]) rfl ⟨by rw [hq]; rfl, ?_⟩
    exact ((HB.out.setCell (p := ⟨w.heap.size, 0, none⟩) (Nat.le_refl _) _).setCell (p := ⟨w.heap.size, 1, none⟩) (Nat.le_refl _) _).setCell (p := ⟨w.heap.size, 2, none⟩) (Nat.le_refl _) _
  · obtain ⟨x, hx, hq⟩ := f1 rfl
    have hkl : k < d.length := (List.getElem?_eq_some_iff.1 hx).1
    obtain ⟨b, o, rfl, hbR, hbl, q0, q1, q2⟩ := (HV.out.kept (Kept.below HB.out)).at k x hx
    clear f1 f2 hx hal
    go_wp2_with fail
    refine bodyPost_ret (v := .tuple #[triAgg x, .bool true]) (by simp [results, Tryz.results131, go_sem, z0, z1, z2, triAgg]) rfl ⟨by rw [hq]; rfl, ?_⟩
    exact ((HB.out.setCell (p := ⟨w.heap.size, 0, none⟩) (Nat.le_refl _) _).setCell (p := ⟨w.heap.size, 1, none⟩) (Nat.le_refl _) _).setCell (p := ⟨w.heap.size, 2, none⟩) (Nat.le_refl _) _
end Go.Proofs.YtnglhgogkemgbaaGreatDoor
/-! Package norms: Hangul. -/
namespace Go.Proofs.YtnglhgogkemgbaaGreatDoor
open Go.RowKit

theorem Tryz.infoI32 : (Tryz.prog.info? 21).map (fun i => (i.zero, i.size, i.bytes)) = some (some (.int .i32 0), 1, 4) := by kernel_rfl
theorem hang_no {r : Int} (h : r < 44032 ∨ 55203 < r) : hang r = [] := by unfold hang; rw [if_pos h]
set_option maxHeartbeats 1000000 in
set_option maxRecDepth 100000 in
theorem hangul_no (r : Int) (h : r < 44032 ∨ 55203 < r) (w : World) :
    Calls Tryz.prog 166 #[.int .i32 r] w fun e w' => e = .returned (.slice none 0 0) ∧ w = w' := by
  go_enter Tryz.func166, Tryz.ntmps166
  by_cases h1 : r < 44032
  · have d1 : decide (r < 44032) = true := decide_eq_true h1
    go_wp2
    all_goals first | (exfalso; omega) | (go_ret; exact ⟨rfl, rfl⟩)
  · have d1 : decide (r < 44032) = false := decide_eq_false h1
    have d2 : decide (55203 < r) = true := decide_eq_true (by omega)
    go_wp2
    all_goals first | (exfalso; omega) | (go_ret; exact ⟨rfl, rfl⟩)
set_option maxHeartbeats 2000000 in
set_option maxRecDepth 100000 in
theorem hangul_yes (r : Int) (h1 : 44032 ≤ r) (h2 : r ≤ 55203) (w : World) :
    Calls Tryz.prog 166 #[.int .i32 r] w fun e w' => ∃ v, e = .returned v ∧ w'.ownsRow w.heap.size 21 1 v (hang r).length ((hang r).map (Value.int .i32)) ∧ Below w.heap.size w w' := by
  obtain ⟨i0, hi, hz0, hz1, hz2⟩ := info_parts Tryz.infoI32
  have HH : Hid (hang r = [4352 + (r - 44032) / 588, 4449 + (r - 44032) % 588 / 28] ++ (if (r - 44032) % 28 = 0 then [] else [4519 + (r - 44032) % 28])) := by
    show _ = _; unfold hang; rw [if_neg (by omega)]
  have hsw : IntKind.i32.wrap (r - 44032) = r - 44032 := by rw [IntKind.wrap_i32]; omega
  have d1 : decide (r < 44032) = false := decide_eq_false (by omega)
  have d2 : decide (55203 < r) = false := decide_eq_false (by omega)
  by_cases h28 : (r - 44032) % 28 = 0
  · have d3 : ((r - 44032) % 28 != 0) = false := by rw [h28]; rfl
    rw [if_pos h28, List.append_nil] at HH
    clear h28
    go_enter Tryz.func166, Tryz.ntmps166
    go_wp2_with (at_builtin; refine app_stop ⟨_, _, rfl⟩ ?_)
    generalize 4352 + (r - 44032) / 588 = x0 at *
    generalize 4449 + (r - 44032) % 588 / 28 = x1 at *
    go_ret
    refine ⟨_, rfl, ?_, (Below.refl _ w).alloc (Nat.le_refl _) _⟩
    rw [HH.out]
    exact World.ownsRow_lit w #[.int .i32 x0, .int .i32 x1] 2 (Nat.le_refl _) (by decide) rfl
  · have d3 : ((r - 44032) % 28 != 0) = true := by simpa using h28
    rw [if_neg h28] at HH
    clear h28
    go_enter Tryz.func166, Tryz.ntmps166
    go_wp2_with (at_builtin; refine app_stop ⟨_, _, rfl⟩ ?_)
    generalize 4352 + (r - 44032) / 588 = x0 at *
    generalize 4449 + (r - 44032) % 588 / 28 = x1 at *
    generalize 4519 + (r - 44032) % 28 = x2 at *
    have HR : Hid ((w.alloc (.cells #[.int .i32 x0, .int .i32 x1] 21)).ownsRow w.heap.size 21 1 (.slice (some ⟨w.heap.size, 0, none⟩) 2 2) ([x0, x1] : List Int).length (([x0, x1] : List Int).map (Value.int .i32))) := World.ownsRow_lit w #[.int .i32 x0, .int .i32 x1] 2 (Nat.le_refl _) (by decide) rfl
    have hz := (w.alloc (.cells #[.int .i32 x0, .int .i32 x1] 21)).size_alloc (.cells #[.int .i32 x2] 21)
    have HC : Hid (∀ (i : Nat) (x : Int), [x2][i]? = some x → ((w.alloc (.cells #[.int .i32 x0, .int .i32 x1] 21)).alloc (.cells #[.int .i32 x2] 21)).cell? ⟨w.heap.size + 1, 0 + i, none⟩ = some (.int .i32 x)) := by
      intro i x hx
      match i with
      | 0 =>
        have := World.alloc_heap_new (w.alloc (.cells #[.int .i32 x0, .int .i32 x1] 21)) (.cells #[.int .i32 x2] 21)
        rw [World.size_alloc] at this
        unfold World.cell?; rw [this]; simpa using hx
      | i + 1 => simp at hx
    have hl2 : ([x0, x1] : List Int).length = 2 := rfl
    refine Lib.hid ?_; refine wpList_append_own _ rfl _ _ 42 rfl (w.heap.size) 21 i0 (.int .i32 0) 1 4 Tryz.underlying42 hi hz0 hz1 hz2 rfl (by decide) _ _ _ rfl (HR.out.alloc _) (⟨w.heap.size + 1, 0, none⟩) _ _ (([x2]).map (Value.int .i32)) rfl (by simp; try omega) (news_of (HC.out)) (by simp [Value.oneCell']) (by unfold maxLen; omega) (by omega) (by simp; omega) ?_
    intro v5 w5 hr5 hg5 _
    go_wp2
    refine bodyPost_ret (v := v5) (by simp [results, Tryz.results166, go_sem]) rfl ⟨v5, rfl, ?_, ?_⟩
    · rw [HH.out]; simpa using hr5
    · refine (((Below.refl _ w).alloc (Nat.le_refl _) _).alloc (by simp) _).grown hg5 (by simp; omega) (fun j hj => ?_)
      have : some w.heap.size = some j := hj
      simp at this; omega
end Go.Proofs.YtnglhgogkemgbaaGreatDoor
/-! Package norms: steps, whole. -/
namespace Go.Proofs.YtnglhgogkemgbaaGreatDoor
open Go.RowKit

/-- the steps from a code point on end after at most so many -/
def ends (d : List T3) : Nat → Int → Prop
  | 0, r => dOne d r = none
  | k + 1, r => match dOne d r with | none => True | some x => ends d k x.2.1
theorem dOne_at {d : List T3} {r : Int} {x : T3} (h : dOne d r = some x) : x.1 = r ∧ x ∈ d := by
  unfold dOne at h
  exact ⟨by simpa using List.find?_some h, List.mem_of_find?_eq_some h⟩
theorem dec_mem {d : List T3} (hd : decFrom none d = true) {x : T3} (hx : x ∈ d) : decOne x = true := by
  obtain ⟨i, hi⟩ := List.getElem?_of_mem hx
  exact (decFrom_at d none hd i x hi).1
theorem dOne_hang {d : List T3} (hd : decFrom none d = true) {r : Int} (h : hang r ≠ []) : dOne d r = none := by
  cases h1 : dOne d r with
  | none => rfl
  | some x =>
    obtain ⟨h2, h3⟩ := dOne_at h1
    have h4 := dec_mem hd h3
    unfold decOne at h4
    simp only [Bool.and_eq_true, Bool.not_eq_true', Bool.and_eq_false_iff, decide_eq_false_iff_not, decide_eq_true_eq] at h4
    exact absurd (hang_no (by omega)) h
theorem ends_of_deep {d : List T3} (hd : decFrom none d = true) : ∀ (k : Nat) (r : Int), (deep d k r).2 = true → ends d k r := by
  intro k
  induction k with
  | zero =>
    intro r h
    show dOne d r = none
    unfold deep at h
    by_cases hh : hang r ≠ []
    · exact dOne_hang hd hh
    · rw [if_neg hh] at h
      cases h1 : dOne d r with
      | none => rfl
      | some x => rw [h1] at h; cases h
  | succ k ih =>
    intro r h
    unfold ends
    by_cases hh : hang r ≠ []
    · rw [dOne_hang hd hh]; trivial
    · unfold deep at h
      rw [if_neg hh] at h
      cases h1 : dOne d r with
      | none => trivial
      | some x => rw [h1] at h; exact ih _ h
theorem ends_bound {d : List T3} (hd : decFrom none d = true) {r : Int} {x : T3} (h : dOne d r = some x) : 0 ≤ x.2.1 ∧ x.2.1 ≤ 1114111 ∧ 0 ≤ x.2.2 ∧ x.2.2 ≤ 1114111 := by
  have h4 := dec_mem hd (dOne_at h).2
  unfold decOne at h4
  simp only [Bool.and_eq_true] at h4
  have h5 := pt_bd h4.1.1.1.1.2
  have h6 := pt_bd h4.1.1.1.2
  omega

set_option maxHeartbeats 4000000 in
set_option maxRecDepth 100000 in
theorem steps_any (R : Nat → Prop) (d : List T3) (v : Value) (r : Int) (w : World) (hv : TrisIn R .i32 w v d) (hd : decFrom none d = true) (hl : d.length ≤ 8000) (hr : -2147483648 ≤ r ∧ r ≤ 2147483647) (he : ends d 4 r) :
    Calls Tryz.prog 132 #[v, .int .i32 r] w fun e w' => ∃ n : Nat, e = .returned (.int .i64 n) ∧ n ≤ 4 ∧ Below w.heap.size w w' := by
  have HV := Lib.hid hv
  obtain ⟨p, cp, rfl, hcp, _⟩ := hv
  have HD := Lib.hid hd
  clear hd
  go_enter Tryz.func132, Tryz.ntmps132
  go_wp2_with fail
  go_loopw [1, 5] (fun rv nv wr => ∃ (s : Int) (n k : Nat), rv = .int .i32 s ∧ nv = .int .i64 n ∧ n + k = 4 ∧ ends d k s ∧ (-2147483648 ≤ s ∧ s ≤ 2147483647) ∧ Below w.heap.size w wr) (fun _ nv _ => 5 - (intOf nv).toNat)
  case atStart => exact ⟨r, 0, 4, rfl, rfl, rfl, he, hr, Below.refl _ _⟩
  case round =>
    obtain ⟨s, n, k, rfl, rfl, hnk, hes, hsb, hb⟩ := hrel
    have HB := Lib.hid hb
    have hone := one_any R d _ s wr (HV.out.kept (Kept.below hb)) HD.out hl hsb
    have HES := Lib.hid hes
    have HSB := Lib.hid hsb
    clear hb hes hsb he
    cases hx : dOne d s with
    | none =>
      rw [hx] at hone
      have HN : Hid (n ≤ 4) := by show _ ≤ _; omega
      go_wp2_with fail
      refine hone.mono ?_
      rintro e w1 ⟨rfl, hb1⟩
      unfold oneAgg triAgg
      simp only [Option.isSome_none]
      clear hone hx
      go_wp2_with fail
      go_ret
      exact ⟨n, rfl, HN.out, HB.out.trans (((hb1.alloc (by simpa using hb1.size) _)).mono HB.out.size)⟩
    | some x =>
      rw [hx] at hone
      obtain ⟨j, rfl⟩ : ∃ j, k = j + 1 := by
        match k, HES.out with
        | 0, h => exact absurd h (by unfold ends; rw [hx]; simp)
        | j + 1, _ => exact ⟨j, rfl⟩
      have HE1 : Hid (ends d j x.2.1) := by
        have := HES.out
        unfold ends at this
        rw [hx] at this; exact this
      have HXB := Lib.hid (ends_bound HD.out hx)
      have d1 : decide ((4 : Int) < (n : Int)) = false := decide_eq_false (by omega)
      have d2 : decide (4 < n) = false := decide_eq_false (by omega)
      have HNJ : Hid (n + j = 3) := by show _ = _; omega
      have hwn : wrap64 ((n : Int) + 1) = (n : Int) + 1 := IntWalk.wrap64_in _ (by omega)
      go_wp2_with fail
      refine hone.mono ?_
      rintro e w1 ⟨rfl, hb1⟩
      unfold oneAgg triAgg
      simp only [Option.isSome_some]
      clear hone hx hnk HES
      go_wp2_with fail
      go_roundw
      case rel => exact ⟨x.2.1, n + 1, j, rfl, by go_num, by have := HNJ.out; omega, HE1.out, by have := HXB.out; omega, HB.out.trans (((hb1.alloc (by simpa using hb1.size) _)).mono HB.out.size)⟩
      case measure => (have hq : n ≤ 3 := (by have := HNJ.out; omega); have h1 : ((n : Int) + 1).toNat = n + 1 := (by omega); have h2 : (n : Int).toNat = n := (by omega); rw [hwn]; show 5 - ((n : Int) + 1).toNat < 5 - (n : Int).toNat; rw [h1, h2]; omega)
end Go.Proofs.YtnglhgogkemgbaaGreatDoor
