/- Package valid: most, levels, variable: walked; the reference's greatest. -/
import Derived.Test.YtnglhgogkemgbaaGreatDoorG33
namespace Go.Proofs.YtnglhgogkemgbaaGreatDoor
open Go.RowKit

theorem elsV_snoc (es : List Ent) (x : Ent) : elsV (es ++ [x]) = elsV es ++ x.2 := by unfold elsV; simp
theorem greatV_take {p0 : Int} {es : List Ent} {k : Nat} {x : Ent} (h : es[k]? = some x) : greatV p0 (es.take (k + 1)) = x.2.foldl gst (greatV p0 (es.take k)) := by
  unfold greatV; rw [take_snocR h, elsV_snoc, List.foldl_append]
theorem gst_take {g : Int × Int × Int} {l : List El} {j : Nat} {y : El} (h : l[j]? = some y) : (l.take (j + 1)).foldl gst g = gst ((l.take j).foldl gst g) y := by
  rw [take_snocR h, List.foldl_append]; rfl
theorem gst_1 {s t p : Int} {y : El} {lv : Int} (h : lvE y = lv) (h1 : lv = 1) : (gst (s, t, p) y).1 = max s y.2.1 ∧ (gst (s, t, p) y).2.1 = max t y.2.2.1 := by
  unfold gst; rw [h, h1]
  simp only [true_and, true_or]
  constructor <;> (split <;> omega)
theorem gst_2 {s t p : Int} {y : El} {lv : Int} (h : lvE y = lv) (h1 : lv = 2) : (gst (s, t, p) y).1 = s ∧ (gst (s, t, p) y).2.1 = max t y.2.2.1 := by
  unfold gst; rw [h, h1]
  simp
  split <;> omega
theorem gst_0 {s t p : Int} {y : El} {lv : Int} (h : lvE y = lv) (h1 : lv ≠ 1) (h2 : lv ≠ 2) : (gst (s, t, p) y).1 = s ∧ (gst (s, t, p) y).2.1 = t := by
  unfold gst; rw [h]
  simp [h1, h2]
set_option maxHeartbeats 4000000 in
set_option maxRecDepth 100000 in
theorem vmost_any (R : Nat → Prop) (p0 : Int) (es : List Ent) (wb : Nat) (nv : Value) (ver : ByteArray) (rv ev t : Value) (w : World) (h : WkAt w wb nv ver rv ev t) (hv : EntsIn R w ev es) (hl : es.length ≤ 4000) (he : ∀ x ∈ es, x.2.length ≤ 16) :
    Calls Tryz.prog 55 #[.pointer (some ⟨wb, 0, none⟩)] w fun e w' => e = .returned (.tuple #[.int .i64 (greatV p0 es).1, .int .i64 (greatV p0 es).2.1]) ∧ Below w.heap.size w w' := by
  have HV := Lib.hid hv
  obtain ⟨p, cp, rfl, _⟩ := hv
  obtain ⟨c0, c1, c2, c3, c4, _, cl⟩ := h.cells
  obtain ⟨n, hn⟩ : ∃ n, n = es.length := ⟨_, rfl⟩
  rw [← hn] at HV hl c3
  have HNN := Lib.hid hn
  have HE := Lib.hid he
  clear h he hn
  go_enter Tryz.func55, Tryz.ntmps55
  go_wp2_with fail
  go_loopw [4, 5, 17] (fun sv tv iv wr => ∃ k : Nat, iv = .int .i64 k ∧ k ≤ n ∧ sv = .int .i64 (greatV p0 (es.take k)).1 ∧ tv = .int .i64 (greatV p0 (es.take k)).2.1 ∧ Below w.heap.size w wr) (fun _ _ iv _ => n - (intOf iv).toNat)
  case atStart => exact ⟨0, rfl, Nat.zero_le _, rfl, rfl, Below.refl _ _⟩
  case round =>
    obtain ⟨k, rfl, hk, rfl, rfl, hb⟩ := hrel
    have HB := Lib.hid hb
    by_cases hlt : k < n
    · have q1 : (k : Int) < (n : Int) := by omega
      obtain ⟨x, hx⟩ : ∃ x, es[k]? = some x := ⟨_, List.getElem?_eq_getElem (by have := HNN.out; omega)⟩
      obtain ⟨b, o, cv, uv, rfl, _, hbl, d0, d1, hci, hui⟩ := (HV.out.kept (Kept.below hb)).at k x hx
      have HU := Lib.hid hui
      have hm16 := HE.out x (List.mem_of_getElem? hx)
      have HG := Lib.hid (greatV_take (p0 := p0) hx)
      obtain ⟨pc, cc, rfl, _⟩ := hci
      obtain ⟨pu, cu, rfl, _⟩ := hui
      obtain ⟨m, hm⟩ : ∃ m, m = x.2.length := ⟨_, rfl⟩
      rw [← hm] at hm16 d1 HU
      have HMM := Lib.hid hm
      have HLT := Lib.hid hlt
      obtain ⟨l, hcl⟩ : ∃ l, l = x.1.length := ⟨_, rfl⟩
      rw [← hcl] at d0
      generalize greatV p0 (es.take k) = g0 at *
      obtain ⟨s0, t0, r0⟩ := g0
      dsimp only
      clear hx hb hlt hk hm hcl
      go_wp2_with fail
      have hbx : Below w.heap.size w (wr.alloc (.cells #[.slice pc l cc, .slice pu m cu] 45)) := HB.out.alloc HB.out.size _
      have HB0 := Lib.hid hbx
      have HU0 := Lib.hid (HU.out.kept (Kept.below ((Below.refl _ wr).alloc (Nat.le_refl _) (.cells #[.slice pc l cc, .slice pu m cu] 45))))
      generalize wr.alloc (.cells #[.slice pc l cc, .slice pu m cu] 45) = W0 at *
      clear hbx
      go_loopw [4, 5, 24] (fun sv tv jv wx => ∃ j : Nat, jv = .int .i64 j ∧ j ≤ m ∧ sv = .int .i64 ((x.2.take j).foldl gst (s0, t0, r0)).1 ∧ tv = .int .i64 ((x.2.take j).foldl gst (s0, t0, r0)).2.1 ∧ Below W0.heap.size W0 wx) (fun _ _ jv _ => m - (intOf jv).toNat)
      case atStart => exact ⟨0, rfl, Nat.zero_le _, rfl, rfl, Below.refl _ _⟩
      case round =>
        obtain ⟨j, rfl, hj, rfl, rfl, hbj⟩ := hrel
        have HBJ := Lib.hid hbj
        by_cases hjt : j < m
        · have q2 : (j : Int) < (m : Int) := by omega
          obtain ⟨y, hy⟩ : ∃ y, x.2[j]? = some y := ⟨_, List.getElem?_eq_getElem (by have := HMM.out; omega)⟩
          obtain ⟨b2, o2, rfl, _, hbl2, e0, e1, e2, e3⟩ := (HU0.out.kept (Kept.below hbj)).at j y hy
          have HGY := Lib.hid (gst_take (g := (s0, t0, r0)) hy)
          have HJT := Lib.hid hjt
          generalize (x.2.take j).foldl gst (s0, t0, r0) = g1 at *
          obtain ⟨s1, t1, r1⟩ := g1
          obtain ⟨y1, y2, y3, y4⟩ := y
          dsimp only at e0 e1 e2 e3 ⊢
          have HLV := Lib.hid (fun w => level_any y1 y2 y3 y4 w)
          obtain ⟨lv, hlv⟩ : ∃ lv, lvl y1 y2 y3 = lv := ⟨_, rfl⟩
          have HL : Hid (lvE (y1, y2, y3, y4) = lv) := hlv
          rw [hlv] at HLV
          clear hy hlv hbj hjt hj
          go_wp2_with fail
          have hx0 : ∀ i v, #[Value.int .i64 y1, .int .i64 y2, .int .i64 y3, .bool y4][i]? = some v → (wr.alloc (.cells #[.int .i64 y1, .int .i64 y2, .int .i64 y3, .bool y4] 73)).cell? ⟨wr.heap.size, i, none⟩ = some v := fun i v hi => by
            rw [World.cell?_alloc_at _ _ _ _ rfl]; exact hi
          have hzz : wr.heap.size < (wr.alloc (.cells #[.int .i64 y1, .int .i64 y2, .int .i64 y3, .bool y4] 73)).heap.size := by simp
          have hb1 : Below W0.heap.size W0 (wr.alloc (.cells #[.int .i64 y1, .int .i64 y2, .int .i64 y3, .bool y4] 73)) := HBJ.out.alloc HBJ.out.size _
          have HB1 := Lib.hid hb1
          generalize wr.alloc (.cells #[.int .i64 y1, .int .i64 y2, .int .i64 y3, .bool y4] 73) = W1 at *
          have x0 := hx0 0 (.int .i64 y1) rfl
          have x1 := hx0 1 (.int .i64 y2) rfl
          have x2 := hx0 2 (.int .i64 y3) rfl
          have x3 := hx0 3 (.bool y4) rfl
          clear hx0 hb1
          refine (HLV.out _).mono ?_
          rintro e w2 ⟨rfl, hb2⟩
          have f0 := (hb2.cell (p := ⟨wr.heap.size, 0, none⟩) hzz).trans x0
          have f1 := (hb2.cell (p := ⟨wr.heap.size, 1, none⟩) hzz).trans x1
          have f2 := (hb2.cell (p := ⟨wr.heap.size, 2, none⟩) hzz).trans x2
          have f3 := (hb2.cell (p := ⟨wr.heap.size, 3, none⟩) hzz).trans x3
          have hz2 : wr.heap.size < w2.heap.size := Nat.lt_of_lt_of_le hzz hb2.size
          have HB2 := Lib.hid (HB1.out.trans (hb2.mono HB1.out.size))
          clear hb2 x0 x1 x2 x3 hzz
          have HRD : Hid (∀ (w3 : World) (s2 t2 : Int), Below w2.heap.size w2 w3 → (gst (s1, t1, r1) (y1, y2, y3, y4)).1 = s2 → (gst (s1, t1, r1) (y1, y2, y3, y4)).2.1 = t2 → ∃ j' : Nat, Value.int .i64 ((j : Int) + 1) = .int .i64 j' ∧ j' ≤ m ∧ Value.int .i64 s2 = .int .i64 ((x.2.take j').foldl gst (s0, t0, r0)).1 ∧ Value.int .i64 t2 = .int .i64 ((x.2.take j').foldl gst (s0, t0, r0)).2.1 ∧ Below W0.heap.size W0 w3) := by
            show ∀ w3 s2 t2, _
            rintro w3 s2 t2 hb3 rfl rfl
            exact ⟨j + 1, by simp, HJT.out, by rw [HGY.out], by rw [HGY.out], HB2.out.trans (hb3.mono HB2.out.size)⟩
          clear HGY HB1
          by_cases hl1 : lv = 1
          · have HL1 := Lib.hid (gst_1 (s := s1) (t := t1) (p := r1) HL.out hl1)
            subst hl1
            clear HL
            rcases Int.lt_or_le s1 y2 with k1 | k1 <;> rcases Int.lt_or_le t1 y3 with k2 | k2
            all_goals (
              have HM : Hid (max s1 y2 = max s1 y2 ∧ max t1 y3 = max t1 y3) := ⟨rfl, rfl⟩
              have HK := Lib.hid (And.intro k1 k2)
              go_wp2_with fail
              refine (HLV.out _).mono ?_
              rintro e w3 ⟨rfl, hb3⟩
              have h1 := (hb3.cell (p := ⟨wr.heap.size, 1, none⟩) hz2).trans f1
              have h2 := (hb3.cell (p := ⟨wr.heap.size, 2, none⟩) hz2).trans f2
              have HB3 := Lib.hid hb3
              have hz3 : wr.heap.size < w3.heap.size := Nat.lt_of_lt_of_le hz2 hb3.size
              clear hb3
              go_wp2_with fail
              go_roundw
              case rel => exact HRD.out _ _ _ HB3.out (by rw [HL1.out.1]; have := HK.out; omega) (by rw [HL1.out.2]; have := HK.out; omega)
              case measure => (have := HJT.out; simp [intOf]; omega))
          · by_cases hl2 : lv = 2
            · have HL2 := Lib.hid (gst_2 (s := s1) (t := t1) (p := r1) HL.out hl2)
              subst hl2
              clear HL
              rcases Int.lt_or_le t1 y3 with k2 | k2
              all_goals (
                have HK := Lib.hid k2
                go_wp2_with fail
                refine (HLV.out _).mono ?_
                rintro e w3 ⟨rfl, hb3⟩
                have h2 := (hb3.cell (p := ⟨wr.heap.size, 2, none⟩) hz2).trans f2
                have HB3 := Lib.hid hb3
                have hz3 : wr.heap.size < w3.heap.size := Nat.lt_of_lt_of_le hz2 hb3.size
                clear hb3
                go_wp2_with fail
                go_roundw
                case rel => exact HRD.out _ _ _ HB3.out HL2.out.1 (by rw [HL2.out.2]; have := HK.out; omega)
                case measure => (have := HJT.out; simp [intOf]; omega))
            · have HL0 := Lib.hid (gst_0 (s := s1) (t := t1) (p := r1) HL.out hl1 hl2)
              have g1 : (lv == 1) = false := beq_eq_false_iff_ne.2 hl1
              have g2 : (lv == 2) = false := beq_eq_false_iff_ne.2 hl2
              clear hl1 hl2 HL
              go_wp2_with fail
              refine (HLV.out _).mono ?_
              rintro e w3 ⟨rfl, hb3⟩
              have HB3 := Lib.hid hb3
              clear hb3
              go_wp2_with fail
              go_roundw
              case rel => exact HRD.out _ _ _ HB3.out HL0.out.1 HL0.out.2
              case measure => (have := HJT.out; simp [intOf]; omega)
        · have q2 : ¬ (j : Int) < (m : Int) := by omega
          have HJE : Hid (x.2.take j = x.2) := List.take_of_length_le (by have := HMM.out; omega)
          have HRO : Hid (∃ k' : Nat, Value.int .i64 ((k : Int) + 1) = .int .i64 k' ∧ k' ≤ n ∧ Value.int .i64 ((x.2.take j).foldl gst (s0, t0, r0)).1 = .int .i64 (greatV p0 (es.take k')).1 ∧ Value.int .i64 ((x.2.take j).foldl gst (s0, t0, r0)).2.1 = .int .i64 (greatV p0 (es.take k')).2.1 ∧ Below w.heap.size w wr) := by
            refine ⟨k + 1, by simp, HLT.out, ?_, ?_, HB0.out.trans (HBJ.out.mono HB0.out.size)⟩
            · rw [HG.out, HJE.out]
            · rw [HG.out, HJE.out]
          generalize ((x.2.take j).foldl gst (s0, t0, r0)).1 = s2 at *
          generalize ((x.2.take j).foldl gst (s0, t0, r0)).2.1 = t2 at *
          clear hj hjt hbj HJE
          go_wp2_with fail
          go_roundw
          case rel => exact HRO.out
          case measure => (have := HLT.out; simp [intOf]; omega)
    · have q1 : ¬ (k : Int) < (n : Int) := by omega
      have HEE : Hid (es.take k = es) := List.take_of_length_le (by have := HNN.out; omega)
      clear hlt hk hb
      go_wp2_with fail
      go_ret2
      exact ⟨by rw [HEE.out] <;> rfl, HB.out⟩
theorem ordB_2 {g : Int × Int × Int} {y : El} {lv : Int} (h : lvE y = lv) (h1 : lv = 2) : ordB g y = decide (g.1 < y.2.1) := by
  unfold ordB; rw [h, h1]
  rw [Bool.eq_iff_iff]; simp
theorem ordB_3 {g : Int × Int × Int} {y : El} {lv : Int} (h : lvE y = lv) (h1 : lv = 3) : ordB g y = decide (g.2.1 < y.2.2.1) := by
  unfold ordB; rw [h, h1]
  rw [Bool.eq_iff_iff]; simp
theorem ordB_0 {g : Int × Int × Int} {y : El} {lv : Int} (h : lvE y = lv) (h1 : lv ≠ 2) (h2 : lv ≠ 3) : ordB g y = true := by
  unfold ordB; rw [h]; simp [h1, h2]
theorem ordZ_yes {g : Int × Int × Int} {x : Ent} (h : ∀ (j : Nat) y, x.2[j]? = some y → ordB g y = true) : ordZ g x = 0 := by
  unfold ordZ
  rw [if_pos]
  rw [List.all_eq_true]
  intro y hy
  obtain ⟨j, hj⟩ := List.getElem?_of_mem hy
  exact h j y hj
theorem ordZ_no {g : Int × Int × Int} {x : Ent} {j : Nat} {y : El} (hy : x.2[j]? = some y) (h : ordB g y = false) : ordZ g x = 110 := by
  unfold ordZ
  rw [if_neg]
  rw [List.all_eq_true]
  intro ha
  have := ha y (List.mem_of_getElem? hy)
  rw [h] at this; cases this
theorem fst_end_none {f : Ent → Int} {es : List Ent} (h : ∀ x ∈ es, f x = 0) : FstEnd (fstZ f 0 es) (.returned (.tuple #[])) := by
  rw [fstZ_none.2 h]; rfl
theorem fst_end_at {f : Ent → Int} {es : List Ent} {k : Nat} {x : Ent} {z : Int} (hx : es[k]? = some x) (h0 : ∀ (j : Nat) y, j < k → es[j]? = some y → f y = 0) (hz : f x = z) (h : z ≠ 0) : FstEnd (fstZ f 0 es) (.panicked (chainV k z)) := by
  rw [fstZ_at hx h0 (by rw [hz]; exact h), hz]
  refine ⟨h, ?_⟩
  simp
set_option maxHeartbeats 4000000 in
set_option maxRecDepth 100000 in
theorem vlevels_any (R : Nat → Prop) (p0 : Int) (es : List Ent) (wb : Nat) (nv : Value) (ver : ByteArray) (rv ev t : Value) (w : World) (h : WkAt w wb nv ver rv ev t) (hv : EntsIn R w ev es) (hl : es.length ≤ 4000) (he : ∀ x ∈ es, x.2.length ≤ 16) :
    Calls Tryz.prog 21 #[.pointer (some ⟨wb, 0, none⟩)] w fun e w' => FstEnd (fstZ (ordZ (greatV p0 es)) 0 es) e ∧ Below w.heap.size w w' := by
  have HMO := Lib.hid (vmost_any R p0 es wb nv ver rv ev t w h hv hl he)
  have HV := Lib.hid hv
  have HW := Lib.hid h
  obtain ⟨p, cp, rfl, _⟩ := hv
  obtain ⟨n, hn⟩ : ∃ n, n = es.length := ⟨_, rfl⟩
  rw [← hn] at HV hl HW
  have HNN := Lib.hid hn
  have HE := Lib.hid he
  have HFN : Hid (∀ f : Ent → Int, (∀ x ∈ es, f x = 0) → FstEnd (fstZ f 0 es) (.returned (.tuple #[]))) := fun f h => fst_end_none h
  generalize greatV p0 es = g at *
  obtain ⟨s, u, r⟩ := g
  dsimp only at HMO
  clear h he hn
  go_enter Tryz.func21, Tryz.ntmps21
  go_wp2_with fail
  refine HMO.out.mono ?_
  rintro e w0 ⟨rfl, hb0⟩
  have HB0 := Lib.hid hb0
  obtain ⟨c0, c1, c2, c3, c4, _, cl⟩ := (HW.out.below hb0).cells
  have HV0 := Lib.hid (HV.out.kept (Kept.below hb0))
  clear hb0 HMO HV HW
  go_wp2_with fail
  go_loopw [20] (fun iv wr => ∃ k : Nat, iv = .int .i64 k ∧ k ≤ n ∧ (∀ (j : Nat) x, j < k → es[j]? = some x → ordZ (s, u, r) x = 0) ∧ Below w0.heap.size w0 wr) (fun iv _ => n - (intOf iv).toNat)
  case atStart => exact ⟨0, rfl, Nat.zero_le _, fun j x hj => absurd hj (Nat.not_lt_zero _), Below.refl _ _⟩
  case round =>
    obtain ⟨k, rfl, hk, hd, hb⟩ := hrel
    have HB := Lib.hid hb
    have HD := Lib.hid hd
    by_cases hlt : k < n
    · have q1 : (k : Int) < (n : Int) := by omega
      obtain ⟨x, hx⟩ : ∃ x, es[k]? = some x := ⟨_, List.getElem?_eq_getElem (by have := HNN.out; omega)⟩
      obtain ⟨b, o, cv, uv, rfl, _, hbl, d0, d1, hci, hui⟩ := (HV0.out.kept (Kept.below hb)).at k x hx
      have HU := Lib.hid hui
      have hm16 := HE.out x (List.mem_of_getElem? hx)
      have HX := Lib.hid hx
      obtain ⟨pc, cc, rfl, _⟩ := hci
      obtain ⟨pu, cu, rfl, _⟩ := hui
      obtain ⟨m, hm⟩ : ∃ m, m = x.2.length := ⟨_, rfl⟩
      rw [← hm] at hm16 d1 HU
      have HMM := Lib.hid hm
      have HLT := Lib.hid hlt
      obtain ⟨l, hcl⟩ : ∃ l, l = x.1.length := ⟨_, rfl⟩
      rw [← hcl] at d0
      clear hx hb hd hlt hk hm hcl
      go_wp2_with fail
      have hbx : Below w0.heap.size w0 (wr.alloc (.cells #[.slice pc l cc, .slice pu m cu] 45)) := HB.out.alloc HB.out.size _
      have HBX := Lib.hid hbx
      have HU0 := Lib.hid (HU.out.kept (Kept.below ((Below.refl _ wr).alloc (Nat.le_refl _) (.cells #[.slice pc l cc, .slice pu m cu] 45))))
      generalize wr.alloc (.cells #[.slice pc l cc, .slice pu m cu] 45) = W0 at *
      clear hbx
      go_loopw [28] (fun jv wr => ∃ j : Nat, jv = .int .i64 j ∧ j ≤ m ∧ (∀ (i : Nat) y, i < j → x.2[i]? = some y → ordB (s, u, r) y = true) ∧ Below W0.heap.size W0 wr) (fun jv _ => m - (intOf jv).toNat)
      case atStart => exact ⟨0, rfl, Nat.zero_le _, fun j x hj => absurd hj (Nat.not_lt_zero _), Below.refl _ _⟩
      case round =>
        obtain ⟨j, rfl, hj, hdj, hbj⟩ := hrel
        have HBJ := Lib.hid hbj
        have HDJ := Lib.hid hdj
        by_cases hjt : j < m
        · have q2 : (j : Int) < (m : Int) := by omega
          obtain ⟨y, hy⟩ : ∃ y, x.2[j]? = some y := ⟨_, List.getElem?_eq_getElem (by have := HMM.out; omega)⟩
          obtain ⟨b2, o2, rfl, _, hbl2, e0, e1, e2, e3⟩ := (HU0.out.kept (Kept.below hbj)).at j y hy
          have HY := Lib.hid hy
          have HJT := Lib.hid hjt
          obtain ⟨y1, y2, y3, y4⟩ := y
          dsimp only at e0 e1 e2 e3
          have HLV := Lib.hid (fun w => level_any y1 y2 y3 y4 w)
          obtain ⟨lv, hlv⟩ : ∃ lv, lvl y1 y2 y3 = lv := ⟨_, rfl⟩
          have HL : Hid (lvE (y1, y2, y3, y4) = lv) := hlv
          rw [hlv] at HLV
          clear hy hlv hbj hjt hj hdj
          go_wp2_with fail
          have hx0 : ∀ i v, #[Value.int .i64 y1, .int .i64 y2, .int .i64 y3, .bool y4][i]? = some v → (wr.alloc (.cells #[.int .i64 y1, .int .i64 y2, .int .i64 y3, .bool y4] 73)).cell? ⟨wr.heap.size, i, none⟩ = some v := fun i v hi => by
            rw [World.cell?_alloc_at _ _ _ _ rfl]; exact hi
          have hzz : wr.heap.size < (wr.alloc (.cells #[.int .i64 y1, .int .i64 y2, .int .i64 y3, .bool y4] 73)).heap.size := by simp
          have hb1 : Below W0.heap.size W0 (wr.alloc (.cells #[.int .i64 y1, .int .i64 y2, .int .i64 y3, .bool y4] 73)) := HBJ.out.alloc HBJ.out.size _
          have HB1 := Lib.hid hb1
          generalize wr.alloc (.cells #[.int .i64 y1, .int .i64 y2, .int .i64 y3, .bool y4] 73) = W1 at *
          have x0 := hx0 0 (.int .i64 y1) rfl
          have x1 := hx0 1 (.int .i64 y2) rfl
          have x2 := hx0 2 (.int .i64 y3) rfl
          have x3 := hx0 3 (.bool y4) rfl
          clear hx0 hb1
          refine (HLV.out _).mono ?_
          rintro e w2 ⟨rfl, hb2⟩
          have f1 := (hb2.cell (p := ⟨wr.heap.size, 1, none⟩) hzz).trans x1
          have f2 := (hb2.cell (p := ⟨wr.heap.size, 2, none⟩) hzz).trans x2
          have hz2 : wr.heap.size < w2.heap.size := Nat.lt_of_lt_of_le hzz hb2.size
          have HB2 := Lib.hid (HB1.out.trans (hb2.mono HB1.out.size))
          have HBW := Lib.hid (HB0.out.trans ((HBX.out.trans (HB2.out.mono HBX.out.size)).mono HB0.out.size))
          clear hb2 x0 x1 x2 x3 hzz HB1 HLV e0 e1 e2 e3
          have HGO : Hid (ordB (s, u, r) (y1, y2, y3, y4) = true → ∃ j' : Nat, Value.int .i64 ((j : Int) + 1) = .int .i64 j' ∧ j' ≤ m ∧ (∀ (i : Nat) y, i < j' → x.2[i]? = some y → ordB (s, u, r) y = true) ∧ Below W0.heap.size W0 w2) := by
            show _ → _
            intro hyes
            refine ⟨j + 1, by simp, HJT.out, fun i y hi hy => ?_, HB2.out⟩
            rcases Nat.lt_succ_iff_lt_or_eq.1 hi with h | rfl
            · exact HDJ.out i y h hy
            · rw [HY.out] at hy; cases hy; exact hyes
          have HTH : Hid (ordB (s, u, r) (y1, y2, y3, y4) = false → FstEnd (fstZ (ordZ (s, u, r)) 0 es) (.panicked (chainV k 110))) := by
            show _ → _
            intro hno
            exact fst_end_at HX.out HD.out (ordZ_no HY.out hno) (by decide)
          by_cases hl2 : lv = 2
          · have HO := Lib.hid (ordB_2 (g := (s, u, r)) HL.out hl2)
            subst hl2
            clear HL
            rcases Int.lt_or_le s y2 with k1 | k1
            · have HYES : Hid (ordB (s, u, r) (y1, y2, y3, y4) = true) := by show _ = _; rw [HO.out]; exact decide_eq_true k1
              have g1 : decide (y2 ≤ s) = false := decide_eq_false (by omega)
              clear k1
              go_wp2_with fail
              go_roundw
              case rel => exact HGO.out HYES.out
              case measure => (have := HJT.out; simp [intOf]; omega)
            · have HNO : Hid (ordB (s, u, r) (y1, y2, y3, y4) = false) := by show _ = _; rw [HO.out]; exact decide_eq_false (by dsimp only; omega)
              have HT := Lib.hid (HTH.out HNO.out)
              have g1 : decide (y2 ≤ s) = true := decide_eq_true k1
              clear k1
              go_wp2_with fail
              with_reducible refine (vmust_no (k : Int) 110 (by decide) _).mono ?_
              rintro e w' ⟨rfl, rfl⟩
              go_wp2_with fail
              exact ⟨rfl, HT.out, HBW.out⟩
          · by_cases hl3 : lv = 3
            · have HO := Lib.hid (ordB_3 (g := (s, u, r)) HL.out hl3)
              subst hl3
              clear HL hl2
              rcases Int.lt_or_le u y3 with k1 | k1
              · have HYES : Hid (ordB (s, u, r) (y1, y2, y3, y4) = true) := by show _ = _; rw [HO.out]; exact decide_eq_true k1
                have g1 : decide (y3 ≤ u) = false := decide_eq_false (by omega)
                clear k1
                go_wp2_with fail
                go_roundw
                case rel => exact HGO.out HYES.out
                case measure => (have := HJT.out; simp [intOf]; omega)
              · have HNO : Hid (ordB (s, u, r) (y1, y2, y3, y4) = false) := by show _ = _; rw [HO.out]; exact decide_eq_false (by dsimp only; omega)
                have HT := Lib.hid (HTH.out HNO.out)
                have g1 : decide (y3 ≤ u) = true := decide_eq_true k1
                clear k1
                go_wp2_with fail
                with_reducible refine (vmust_no (k : Int) 110 (by decide) _).mono ?_
                rintro e w' ⟨rfl, rfl⟩
                go_wp2_with fail
                exact ⟨rfl, HT.out, HBW.out⟩
            · have HYES := Lib.hid (ordB_0 (g := (s, u, r)) HL.out hl2 hl3)
              have g1 : (lv == 2) = false := beq_eq_false_iff_ne.2 hl2
              have g2 : (lv == 3) = false := beq_eq_false_iff_ne.2 hl3
              clear hl2 hl3 HL
              go_wp2_with fail
              go_roundw
              case rel => exact HGO.out HYES.out
              case measure => (have := HJT.out; simp [intOf]; omega)
        · have q2 : ¬ (j : Int) < (m : Int) := by omega
          have HRO : Hid (∃ k' : Nat, Value.int .i64 ((k : Int) + 1) = .int .i64 k' ∧ k' ≤ n ∧ (∀ (i : Nat) x, i < k' → es[i]? = some x → ordZ (s, u, r) x = 0) ∧ Below w0.heap.size w0 wr) := by
            refine ⟨k + 1, by simp, HLT.out, fun i z hi hz => ?_, HBX.out.trans (HBJ.out.mono HBX.out.size)⟩
            rcases Nat.lt_succ_iff_lt_or_eq.1 hi with h | rfl
            · exact HD.out i z h hz
            · rw [HX.out] at hz; cases hz
              refine ordZ_yes (fun i y hy => HDJ.out i y ?_ hy)
              have := (List.getElem?_eq_some_iff.1 hy).1
              have := HMM.out
              omega
          clear hj hjt hbj hdj
          go_wp2_with fail
          go_roundw
          case rel => exact HRO.out
          case measure => (have := HLT.out; simp [intOf]; omega)
    · have q1 : ¬ (k : Int) < (n : Int) := by omega
      have HFE : Hid (FstEnd (fstZ (ordZ (s, u, r)) 0 es) (.returned (.tuple #[]))) := by
        refine HFN.out _ (fun x hx => ?_)
        obtain ⟨j, hj⟩ := List.getElem?_of_mem hx
        exact HD.out j x (by have := (List.getElem?_eq_some_iff.1 hj).1; have := HNN.out; omega) hj
      have HBE := Lib.hid (HB0.out.trans (HB.out.mono HB0.out.size))
      clear hlt hk hb hd
      go_wp2_with fail
      go_end0
      exact ⟨HFE.out, HBE.out⟩
end Go.Proofs.YtnglhgogkemgbaaGreatDoor
