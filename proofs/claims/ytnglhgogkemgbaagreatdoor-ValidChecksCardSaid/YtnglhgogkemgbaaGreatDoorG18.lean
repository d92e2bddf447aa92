/- Package norms: checkDecomps of data that may be. -/
import Derived.Test.YtnglhgogkemgbaaGreatDoorG17
namespace Go.Proofs.YtnglhgogkemgbaaGreatDoor
open Go.RowKit

theorem deep_ne {d : List T3} : ∀ (k : Nat) (r : Int), (deep d k r).2 = true → (deep d k r).1 ≠ [] := by
  intro k
  induction k with
  | zero =>
    intro r h; unfold deep at h ⊢
    split
    · assumption
    · rename_i hh
      rw [if_neg hh] at h
      cases h1 : dOne d r with
      | none => simp
      | some x => rw [h1] at h; cases h
  | succ k ih =>
    intro r h; unfold deep at h ⊢
    split
    · assumption
    · rename_i hh
      rw [if_neg hh] at h
      cases h1 : dOne d r with
      | none => simp
      | some x => rw [h1] at h; simp only; intro e; exact ih _ h (List.append_eq_nil_iff.1 e).1
theorem two_B {c d : List T3} {x : T3} (h : decTwo c d x = true) : x.2.2 = 0 ∨ (dOne d x.2.2 = none ∧ hang x.2.2 = []) := by
  unfold decTwo at h
  simp only [Bool.and_eq_true, Bool.or_eq_true, beq_iff_eq, Option.isNone_iff_eq_none, decide_eq_true_eq] at h
  exact h.1.1

set_option maxHeartbeats 8000000 in
set_option maxRecDepth 100000 in
theorem checkDecomps_ok (R Rc : Nat → Prop) (c d : List T3) (u v : Value) (w : World) (hu : TrisIn Rc .i64 w u c) (hv : TrisIn R .i32 w v d) (hc : clsFrom none c = true) (hcl : c.length ≤ 4000) (hd : decFrom none d = true) (hl : d.length ≤ 8000) (h2 : ∀ x ∈ d, decTwo c d x = true) :
    Calls Tryz.prog 92 #[u, v] w fun e w' => e = .returned (.int .i64 0) ∧ Below w.heap.size w w' := by
  have HU := Lib.hid hu
  have HV := Lib.hid hv
  obtain ⟨q, cq, rfl, hcq, _⟩ := hu
  obtain ⟨p, cp, rfl, hcp, _⟩ := hv
  have HC := Lib.hid hc
  have HD := Lib.hid hd
  have H2 := Lib.hid h2
  clear hc hd h2
  go_enter Tryz.func92, Tryz.ntmps92
  go_wp2_with fail
  go_loopw [14] (fun iv wr => ∃ i : Nat, iv = .int .i64 i ∧ i ≤ d.length ∧ Below w.heap.size w wr) (fun iv _ => d.length - (intOf iv).toNat)
  case atStart => exact ⟨0, rfl, by omega, Below.refl _ _⟩
  case round =>
    obtain ⟨i, rfl, hi, hb⟩ := hrel
    have HB := Lib.hid hb
    by_cases hlt : i < d.length
    · have e1 : decide ((i : Int) < (d.length : Int)) = true := decide_eq_true (by omega)
      have e2 : decide (i < d.length) = true := decide_eq_true hlt
      have hx : d[i]? = some d[i] := List.getElem?_eq_getElem hlt
      generalize d[i] = x at hx
      obtain ⟨b, o, rfl, hbR, hbl, q0, q1, q2⟩ := (HV.out.kept (Kept.below hb)).at i x hx
      have hone := decFrom_at d none HD.out i x hx
      have hx1 := hone.1
      have hBx := two_B (H2.out x (List.mem_of_getElem? hx))
      unfold decOne at hx1
      simp only [Bool.and_eq_true, decide_eq_true_eq, Bool.not_eq_true', Bool.and_eq_false_iff, decide_eq_false_iff_not] at hx1
      obtain ⟨⟨⟨⟨⟨p1, p2⟩, p3⟩, hA⟩, hco⟩, _⟩ := hx1
      have a0 : (x.2.1 == 0) = false := beq_eq_false_iff_ne.2 hA
      have hcode : decide (44032 ≤ x.1) = false ∨ (decide (44032 ≤ x.1) = true ∧ decide (x.1 ≤ 55203) = false) := by
        rcases Int.lt_or_le x.1 44032 with h | h
        · exact .inl (decide_eq_false (by omega))
        · exact .inr ⟨decide_eq_true h, decide_eq_false (by omega)⟩
      have hbb : ((x.2.2 != 0) = false ∧ decide (44032 ≤ x.2.2) = false) ∨ ((x.2.2 != 0) = true ∧ decide (44032 ≤ x.2.2) = false) ∨ ((x.2.2 != 0) = true ∧ decide (44032 ≤ x.2.2) = true ∧ decide (x.2.2 ≤ 55203) = false) := by
        rcases hBx with h | h
        · exact .inl ⟨by rw [h]; rfl, by rw [h]; rfl⟩
        · by_cases h0 : x.2.2 = 0
          · exact .inl ⟨by rw [h0]; rfl, by rw [h0]; rfl⟩
          · have h1 : (x.2.2 != 0) = true := by simpa using h0
            rcases hang_out h.2 with h2 | h2
            · exact .inr (.inl ⟨h1, decide_eq_false (by omega)⟩)
            · exact .inr (.inr ⟨h1, decide_eq_true (by omega), decide_eq_false (by omega)⟩)
      have HL := Lib.hid hlt
      clear hBx hA hco
      by_cases h0 : i = 0
      · have g4 : decide ((0 : Int) < (i : Int)) = false := decide_eq_false (by omega)
        have g5 : decide (0 < i) = false := decide_eq_false (by omega)
        clear hx hone hlt hb h0
        go_wp2_with fail
        (rcases hcode with c1 | ⟨c1, c2⟩) <;> (rcases hbb with ⟨b1, b2⟩ | ⟨b1, b2⟩ | ⟨b1, b2, b3⟩)
        all_goals
          (refine wp_region_over (by kernel_rfl) (by kernel_rfl) ?_; (repeat (go_big_quiet_step ((go_at_call 130; exact over_same (point_yes _ _ (by assumption)))))); refine wpQuiet_nil ?_; intro w1 hb1
           go_wp2_with fail
           go_roundw)
        all_goals first
          | exact ⟨i + 1, by go_num, by have := HL.out; omega, HB.out.trans ((((Below.refl _ wr).alloc (Nat.le_refl _) _).trans (hb1.mono (by simp))).mono HB.out.size)⟩
          | (have hq := HL.out; simp [intOf]; omega)
      · obtain ⟨j, hj⟩ : ∃ j, i = j + 1 := ⟨i - 1, by omega⟩
        have hij : (i : Int) - 1 = (j : Int) := by omega
        have hjl : j < d.length := by omega
        have g4 : decide ((0 : Int) < (i : Int)) = true := decide_eq_true (by omega)
        have g5 : decide (0 < i) = true := decide_eq_true (by omega)
        have hy : d[j]? = some d[j] := List.getElem?_eq_getElem hjl
        generalize d[j] = y at hy
        have hyx := hone.2 y (by rw [hj]; exact hy)
        obtain ⟨_, _, e, _, _, r0, r1, r2⟩ := (HV.out.kept (Kept.below hb)).at j y hy
        cases e
        have g6 : decide (x.1 ≤ y.1) = false := decide_eq_false (by omega)
        clear hx hone hlt hb h0 hy hyx hj
        go_wp2_with fail
        (rcases hcode with c1 | ⟨c1, c2⟩) <;> (rcases hbb with ⟨b1, b2⟩ | ⟨b1, b2⟩ | ⟨b1, b2, b3⟩)
        all_goals
          (refine wp_region_over (by kernel_rfl) (by kernel_rfl) ?_; (repeat (go_big_quiet_step ((go_at_call 130; exact over_same (point_yes _ _ (by assumption)))))); refine wpQuiet_nil ?_; intro w1 hb1
           go_wp2_with fail
           go_roundw)
        all_goals first
          | exact ⟨i + 1, by go_num, by have := HL.out; omega, HB.out.trans ((((Below.refl _ wr).alloc (Nat.le_refl _) _).trans (hb1.mono (by simp))).mono HB.out.size)⟩
          | (have hq := HL.out; simp [intOf]; omega)
    · have e1 : decide ((i : Int) < (d.length : Int)) = false := decide_eq_false (by omega)
      have e2 : decide (i < d.length) = false := decide_eq_false hlt
      clear hlt hb
      go_wp2_with fail
      go_loopw [83] (fun iv wr => ∃ i : Nat, iv = .int .i64 i ∧ i ≤ d.length ∧ Below w.heap.size w wr) (fun iv _ => d.length - (intOf iv).toNat)
      case atStart => exact ⟨0, rfl, by omega, HB.out⟩
      case round =>
        obtain ⟨m, rfl, hm, hb⟩ := hrel
        have HB := Lib.hid hb
        by_cases hlt : m < d.length
        · have e1 : decide ((m : Int) < (d.length : Int)) = true := decide_eq_true (by omega)
          have e2 : decide (m < d.length) = true := decide_eq_true hlt
          have hx : d[m]? = some d[m] := List.getElem?_eq_getElem hlt
          generalize d[m] = x at hx
          obtain ⟨b, o, rfl, hbR, hbl, q0, q1, q2⟩ := (HV.out.kept (Kept.below hb)).at m x hx
          have hmem := List.mem_of_getElem? hx
          have H2X := Lib.hid (H2.out x hmem)
          have hxo := dec_mem HD.out hmem
          unfold decOne at hxo
          simp only [Bool.and_eq_true] at hxo
          have hb0 := pt_bd hxo.1.1.1.1.1
          have hb2 := pt_bd hxo.1.1.1.2
          have HXB : Hid ((-2147483648 ≤ x.1 ∧ x.1 ≤ 2147483647) ∧ (-2147483648 ≤ x.2.2 ∧ x.2.2 ≤ 2147483647)) := by constructor <;> omega
          have HL := Lib.hid hlt
          clear hx hmem hxo hb0 hb2 hlt hb
          go_wp2_with fail
          have hal : Below wr.heap.size wr (wr.alloc (.cells #[.int .i32 x.1, .int .i32 x.2.1, .int .i32 x.2.2] 94)) := (Below.refl _ wr).alloc (Nat.le_refl _) _
          have HBA : Hid (Below w.heap.size w (wr.alloc (.cells #[.int .i32 x.1, .int .i32 x.2.1, .int .i32 x.2.2] 94))) := HB.out.trans (hal.mono HB.out.size)
          have hnew : (wr.alloc (.cells #[.int .i32 x.1, .int .i32 x.2.1, .int .i32 x.2.2] 94)).heap[wr.heap.size]? = some (.cells #[.int .i32 x.1, .int .i32 x.2.1, .int .i32 x.2.2] 94 (0, 0)) := World.alloc_heap_new _ _
          generalize wr.alloc (.cells #[.int .i32 x.1, .int .i32 x.2.1, .int .i32 x.2.2] 94) = wa at *
          have hone := one_any R d _ x.2.2 wa (HV.out.kept (Kept.below HBA.out)) HD.out hl HXB.out.2
          obtain ⟨y, hy⟩ : ∃ y, oneAgg (dOne d x.2.2) = triAgg y := by cases dOne d x.2.2 <;> exact ⟨_, rfl⟩
          have HSM : Hid ((x.2.2 != 0) = false ∨ ((x.2.2 != 0) = true ∧ (dOne d x.2.2).isSome = false)) := by
            rcases two_B H2X.out with h | h
            · exact .inl (by rw [h]; rfl)
            · by_cases h0 : x.2.2 = 0
              · exact .inl (by rw [h0]; rfl)
              · exact .inr ⟨by simpa using h0, by rw [h.1]; rfl⟩
          rw [hy] at hone
          generalize (dOne d x.2.2).isSome = bs at *
          unfold triAgg at hone
          refine hone.mono ?_
          rintro e w1 ⟨rfl, hb1⟩
          have hn1 : w1.heap[wr.heap.size]? = _ := (hb1.block _ (Array.getElem?_eq_some_iff.1 hnew).1).trans hnew
          have c0 : w1.cell? ⟨wr.heap.size, 0, none⟩ = some (.int .i32 x.1) := by simp [World.cell?, hn1]
          have c2 : w1.cell? ⟨wr.heap.size, 2, none⟩ = some (.int .i32 x.2.2) := by simp [World.cell?, hn1]
          have hbw := (Array.getElem?_eq_some_iff.1 hn1).1
          have HB1 : Hid (Below w.heap.size w w1) := HBA.out.trans (hb1.mono HBA.out.size)
          have HN1 := Lib.hid hn1
          generalize wr.heap.size = bx at *
          clear hone hb1 hal hnew HBA hy q0 q1 q2 hn1
          go_wp2_with fail
          have hal : Below w1.heap.size w1 (w1.alloc (.cells #[.int .i32 y.1, .int .i32 y.2.1, .int .i32 y.2.2] 94)) := (Below.refl _ w1).alloc (Nat.le_refl _) _
          have HB2 : Hid (Below w.heap.size w (w1.alloc (.cells #[.int .i32 y.1, .int .i32 y.2.1, .int .i32 y.2.2] 94))) := HB1.out.trans (hal.mono HB1.out.size)
          have hn2 := (hal.block _ hbw).trans HN1.out
          generalize w1.alloc (.cells #[.int .i32 y.1, .int .i32 y.2.1, .int .i32 y.2.2] 94) = w2 at *
          have hdeep : (deep d 4 x.1).2 = true := by
            have := H2X.out
            unfold decTwo at this
            simp only [Bool.and_eq_true] at this
            exact this.1.2
          have hends := ends_of_deep HD.out 4 x.1 hdeep
          have hst := steps_any R d _ x.1 w2 (HV.out.kept (Kept.below HB2.out)) HD.out hl HXB.out.1 hends
          refine hst.mono ?_
          rintro e w3 ⟨ns, rfl, hns, hb3⟩
          have hn3 := (hb3.block _ (Array.getElem?_eq_some_iff.1 hn2).1).trans hn2
          have HB3 : Hid (Below w.heap.size w w3) := HB2.out.trans (hb3.mono HB2.out.size)
          have hwh := whole_any R d _ HD.out hl (fun z hz => two_B (H2.out z hz)) 4 (Nat.le_refl _) x.1 w3 (HV.out.kept (Kept.below HB3.out)) HXB.out.1 hends
          have HLB := Lib.hid (deep_ne 4 x.1 hdeep)
          have HCL : Hid ((clsOf c x.1 != 0) = false ∨ ((clsOf c x.1 != 0) = true ∧ (clsOf c ((deep d 4 x.1).1.getD 0 0) == 0) = false)) := by
            have := H2X.out
            unfold decTwo at this
            simp only [Bool.and_eq_true, Bool.or_eq_true] at this
            rcases this.2 with h | h
            · exact .inl (by simpa using h)
            · by_cases h0 : clsOf c x.1 = 0
              · exact .inl (by rw [h0]; rfl)
              · exact .inr ⟨by simpa using h0, by simpa using h⟩
          generalize (deep d 4 x.1).1 = L at *
          have c0' : w3.cell? ⟨bx, 0, none⟩ = some (.int .i32 x.1) := by simp [World.cell?, hn3]
          have c2' : w3.cell? ⟨bx, 2, none⟩ = some (.int .i32 x.2.2) := by simp [World.cell?, hn3]
          have d4 : decide ((4 : Int) < (ns : Int)) = false := decide_eq_false (by omega)
          have d5 : decide (4 < ns) = false := decide_eq_false (by omega)
          have HN3 := Lib.hid hn3
          have HBW3 := Lib.hid (Array.getElem?_eq_some_iff.1 hn3).1
          clear hst hb3 hal hn2 hdeep hends c0 c2 hbw HN1 HB1 HB2 hn3
          have hgo : ∀ {Q : Prop}, ((x.2.2 != 0) = false → Q) → ((x.2.2 != 0) = true → bs = false → Q) → Q := fun h1 h2 => by
            rcases HSM.out with h | ⟨h, h'⟩
            · exact h1 h
            · exact h2 h h'
          refine hgo (fun b1 => ?_) (fun b1 b2 => ?_)
          all_goals
            (try subst b2)
            go_wp2_with fail
            refine hwh.mono ?_
            rintro e w4 ⟨v4, rfl, hr4, hb4⟩
            obtain ⟨n4, hn4⟩ : ∃ n, L.length = n + 1 := ⟨L.length - 1, by have := List.length_pos_iff.2 HLB.out; omega⟩
            obtain ⟨g, o4, c4, rfl, _, hg4, hc4⟩ := (runes_of_own hr4).place (by omega)
            have HB4 : Hid (Below w.heap.size w w4) := HB3.out.trans (hb4.mono HB3.out.size)
            have hl0 : w4.cell? ⟨g, o4, none⟩ = some (.int .i32 (L.getD 0 0)) := hc4 0 _ (by rw [List.getD_eq_getElem?_getD, List.getElem?_eq_getElem (by omega)]; rfl)
            have hn4' := (hb4.block _ HBW3.out).trans HN3.out
            have c0'' : w4.cell? ⟨bx, 0, none⟩ = some (.int .i32 x.1) := by simp [World.cell?, hn4']
            have hca := classOf_any Rc c _ x.1 w4 (HU.out.kept (Kept.below HB4.out)) HC.out hcl
            rw [hn4]
            clear hwh hr4 hb4 hc4 hn4' c0' c2'
            go_wp2_with fail
            refine hca.mono ?_
            rintro e w5 ⟨rfl, hb5⟩
            have HB5 : Hid (Below w.heap.size w w5) := HB4.out.trans (hb5.mono HB4.out.size)
            have hl5 : w5.cell? ⟨g, o4, none⟩ = some (.int .i32 (L.getD 0 0)) := (hb5.cell (p := ⟨g, o4, none⟩) hg4).trans hl0
            have hcb := classOf_any Rc c _ (L.getD 0 0) w5 (HU.out.kept (Kept.below HB5.out)) HC.out hcl
            generalize L.getD 0 0 = l0 at *
            generalize clsOf c x.1 = k1 at *
            generalize clsOf c l0 = k2 at *
            clear hca hb5 hl0 c0''
            rcases HCL.out with f1 | ⟨f1, f2⟩
            · go_wp2_with fail
              go_roundw
              case rel => exact ⟨m + 1, by go_num, by have := HL.out; omega, HB5.out⟩
              case measure => (have hq := HL.out; simp [intOf]; omega)
            · go_wp2_with fail
              refine hcb.mono ?_
              rintro e w6 ⟨rfl, hb6⟩
              have HB6 : Hid (Below w.heap.size w w6) := HB5.out.trans (hb6.mono HB5.out.size)
              clear hcb hb6
              go_wp2_with fail
              go_roundw
              case rel => exact ⟨m + 1, by go_num, by have := HL.out; omega, HB6.out⟩
              case measure => (have hq := HL.out; simp [intOf]; omega)
        · have e1 : decide ((m : Int) < (d.length : Int)) = false := decide_eq_false (by omega)
          have e2 : decide (m < d.length) = false := decide_eq_false hlt
          clear hlt hb
          go_wp2_with fail
          go_ret
          exact ⟨rfl, HB.out⟩
end Go.Proofs.YtnglhgogkemgbaaGreatDoor
