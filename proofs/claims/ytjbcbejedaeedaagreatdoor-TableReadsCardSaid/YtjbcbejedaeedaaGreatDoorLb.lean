/- The reference of chapter 8: tables that are alike are found so: walked. -/
import Derived.Test.YtjbcbejedaeedaaGreatDoorDo
import Derived.Test.YtjbcbejedaeedaaGreatDoorDn
namespace Go.Proofs.YtjbcbejedaeedaaGreatDoor
open Go.RowKit

set_option maxHeartbeats 2000000 in
set_option maxRecDepth 100000 in
theorem sameE8_any (R Q : Nat → Prop) (xs : List El) (v u : Value) (w : World) (hv : ElsIn R w v xs) (hu : ElsIn Q w u xs) (hx : xs.length ≤ maxLen) :
    Calls Tryz.prog 62 #[v, u] w fun e w' => e = .returned (.bool true) ∧ Below w.heap.size w w' := by
  have HV := Lib.hid hv
  have HU := Lib.hid hu
  obtain ⟨p, cp, rfl, _⟩ := hv
  obtain ⟨q, cq, rfl, _⟩ := hu
  unfold maxLen at hx
  go_enter Tryz.func62, Tryz.ntmps62
  go_wp2
  go_loopw [5] (fun i wr => ∃ k : Nat, i = .int .i64 k ∧ k ≤ xs.length ∧ Below w.heap.size w wr) (fun i _ => xs.length - (intOf i).toNat)
  case atStart => exact ⟨0, rfl, Nat.zero_le _, Below.refl _ _⟩
  case round =>
    obtain ⟨k, rfl, hr, hbr⟩ := hrel
    have HB := Lib.hid hbr
    by_cases hlt : k < xs.length
    · have hlt' : decide (k < xs.length) = true := decide_eq_true hlt
      obtain ⟨x, hxk⟩ : ∃ x, xs[k]? = some x := ⟨xs[k], List.getElem?_eq_getElem hlt⟩
      obtain ⟨b, o, rfl, _, hb, c0, c1, c2, c3⟩ := (HV.out.kept (Kept.below hbr)).at k x hxk
      obtain ⟨b2, o2, rfl, _, hb2, d0, d1, d2, d3⟩ := (HU.out.kept (Kept.below hbr)).at k x hxk
      have HL := Lib.hid hlt
      have hq := neqE x x
      have hxy' : decide (x ≠ x) = false := by simp
      rw [hxy'] at hq
      unfold elAgg at hq
      clear hr hbr hxk hxy'
      obtain ⟨xp, xs', xt, xv⟩ := x
      simp only at c0 c1 c2 c3 d0 d1 d2 d3 hq
      go_wp2
      go_quiet (fail)
      go_wp2
      go_roundw
      case rel => exact ⟨k + 1, by go_num, HL.out, HB.out.trans ((below_drewQ _ _).mono HB.out.size)⟩
      case measure => (have hq := HL.out; simp [intOf]; omega)
    · have hlt' : decide (k < xs.length) = false := decide_eq_false hlt
      clear hlt hr hbr
      go_wp2
      go_ret
      exact ⟨rfl, HB.out⟩
set_option maxHeartbeats 2000000 in
set_option maxRecDepth 100000 in
theorem sameX8_any (R Q : Nat → Prop) (x : Ent) (c u c2 u2 : Value) (w : World) (hc : IntsIn R .i32 w c x.1) (hu : ElsIn R w u x.2) (hc2 : IntsIn Q .i32 w c2 x.1) (hu2 : ElsIn Q w u2 x.2) (h1 : x.1.length ≤ 1000000000) (h2 : x.2.length ≤ 1000000000) :
    Calls Tryz.prog 28 #[.agg #[c, u], .agg #[c2, u2]] w fun e w' => e = .returned (.bool true) ∧ Below w.heap.size w w' := by
  obtain ⟨W0, hW⟩ : ∃ W0, W0 = (w.alloc (.cells #[c, u] 45)).alloc (.cells #[c2, u2] 45) := ⟨_, rfl⟩
  have hb : Below w.heap.size w W0 := by rw [hW]; exact ((Below.refl _ w).alloc (Nat.le_refl _) _).alloc (by simp) _
  have hz : W0.heap.size = w.heap.size + 2 := by rw [hW]; simp
  have hs1 := same8_any R Q x.1 x.1 c c2 W0 (hc.kept (Kept.below hb)) (hc2.kept (Kept.below hb)) h1 h1
  have d0 : W0.heap[w.heap.size]? = some (.cells #[c, u] 45 (0, 0)) := by rw [hW, Below.heap_alloc _ _ _ (by simp)]; exact World.alloc_heap_new w _
  have d1 : W0.heap[w.heap.size + 1]? = some (.cells #[c2, u2] 45 (0, 0)) := by
    have := World.alloc_heap_new (w.alloc (.cells #[c, u] 45)) (.cells #[c2, u2] 45)
    rw [World.size_alloc] at this; rw [hW]; exact this
  have HB := Lib.hid hb
  have HZ := Lib.hid hz
  have H2 : Hid (∀ w1, Below W0.heap.size W0 w1 → Calls Tryz.prog 62 #[u, u2] w1 fun e w' => e = .returned (.bool true) ∧ Below w1.heap.size w1 w') := fun w1 hb1 => by
    have hb2 : Below w.heap.size w w1 := hb.trans (hb1.mono hb.size)
    exact sameE8_any R Q x.2 u u2 w1 (hu.kept (Kept.below hb2)) (hu2.kept (Kept.below hb2)) (by unfold maxLen; omega)
  have hd : decide (x.1 = x.1) = true := by simp
  rw [hd] at hs1
  clear hc hu hc2 hu2 h1 h2 hb hz hd
  go_enter Tryz.func28, Tryz.ntmps28
  go_wp2_with fail
  rw [← hW]
  have c0 : W0.cell? ⟨w.heap.size, 0, none⟩ = some c := by simp [World.cell?, d0]
  have c1 : W0.cell? ⟨w.heap.size, 1, none⟩ = some u := by simp [World.cell?, d0]
  have c2 : W0.cell? ⟨w.heap.size + 1, 0, none⟩ = some c2 := by simp [World.cell?, d1]
  have c3 : W0.cell? ⟨w.heap.size + 1, 1, none⟩ = some u2 := by simp [World.cell?, d1]
  with_reducible refine hs1.mono ?_
  rintro e w1 ⟨rfl, hb1⟩
  have HB1 := Lib.hid hb1
  have hw1 : w.heap.size + 2 ≤ w1.heap.size := by rw [← HZ.out]; exact hb1.size
  have e1 : w1.cell? ⟨w.heap.size, 1, none⟩ = some u := by rw [hb1.cell (p := ⟨w.heap.size, 1, none⟩) (by rw [HZ.out]; show w.heap.size < _; omega)]; exact c1
  have e2 : w1.cell? ⟨w.heap.size + 1, 1, none⟩ = some u2 := by rw [hb1.cell (p := ⟨w.heap.size + 1, 1, none⟩) (by rw [HZ.out]; show w.heap.size + 1 < _; omega)]; exact c3
  clear hs1 hW d0 d1 c0 c1 c2 c3 hb1
  go_wp2_with fail
  with_reducible refine (H2.out w1 HB1.out).mono ?_
  rintro e w2 ⟨rfl, hb2⟩
  have HB2 := Lib.hid hb2
  clear hb2
  go_wp2_with fail
  go_ret
  exact ⟨rfl, HB.out.trans ((HB1.out.trans (HB2.out.mono HB1.out.size)).mono HB.out.size)⟩
theorem heldR : Tryz.prog.stoodInHeld 61 = false := by kernel_rfl
theorem neqR (x : Rng) (w : World) : (binOp .neq 61 (rgAgg x) (rgAgg x)).run Tryz.prog w = .ok (.bool false) w := by
  obtain ⟨p, s, t, v⟩ := x
  unfold rgAgg
  rw [run_neq_struct, run_equalIn_agg (P := Tryz.prog) w 9999 61 _ _ (by kernel_rfl) heldR]
  simp only [Program.fieldsOf, Tryz.underlying61]
  have u2 := Tryz.underlying21
  have a2 := Tryz.isAgg21
  have z2 := Tryz.sizeOf21
  have u3 := Tryz.underlying3
  have a3 := Tryz.isAgg3
  have z3 := Tryz.sizeOf3
  have u4 := Tryz.underlying4
  have a4 := Tryz.isAgg4
  have z4 := Tryz.sizeOf4
  go_simp
/-- what stands in a source's box lies in any world that only has more -/
theorem SrcIs.below {W W' : World} {b : Nat} {ver : Bs} {rv ev : Value} (h : SrcIs W b ver rv ev) (hb : Below W.heap.size W W') : SrcIs W' b ver rv ev := (hb.block b (Array.getElem?_eq_some_iff.1 h).1).trans h
set_option maxHeartbeats 8000000 in
set_option maxRecDepth 100000 in
/-- tables that are alike -/
theorem rSame8_any (R Q : Nat → Prop) (ver : Bs) (rs : List Rng) (es : List Ent) (r1 e1 r2 e2 : Value) (w : World) (hr1 : RngsIn R w r1 rs) (he1 : EntsIn R w e1 es) (hr2 : RngsIn Q w r2 rs) (he2 : EntsIn Q w e2 es)
    (h1 : rs.length ≤ 1000000000) (h2 : es.length ≤ 1000000000) (h3 : ∀ x ∈ es, x.1.length ≤ 1000000000 ∧ x.2.length ≤ 1000000000) :
    Calls Tryz.prog 9 #[.agg #[.string (mkB ver), r1, e1], .agg #[.string (mkB ver), r2, e2]] w fun e w' => e = .returned (.bool true) ∧ Below w.heap.size w w' := by
  have HH := Lib.hid h3
  obtain ⟨W0, hW⟩ : ∃ W0, W0 = (w.alloc (.cells #[.string (mkB ver), r1, e1] 26)).alloc (.cells #[.string (mkB ver), r2, e2] 26) := ⟨_, rfl⟩
  have hb : Below w.heap.size w W0 := by rw [hW]; exact ((Below.refl _ w).alloc (Nat.le_refl _) _).alloc (by simp) _
  have d0 : SrcIs W0 w.heap.size ver r1 e1 := by unfold SrcIs; rw [hW, Below.heap_alloc _ _ _ (by simp)]; exact World.alloc_heap_new w _
  have d1 : SrcIs W0 (w.heap.size + 1) ver r2 e2 := by
    have := World.alloc_heap_new (w.alloc (.cells #[.string (mkB ver), r1, e1] 26)) (.cells #[.string (mkB ver), r2, e2] 26)
    rw [World.size_alloc] at this; unfold SrcIs; rw [hW]; exact this
  have HR1 := Lib.hid (hr1.kept (Kept.below hb))
  have HR2 := Lib.hid (hr2.kept (Kept.below hb))
  have HE1 := Lib.hid (he1.kept (Kept.below hb))
  have HE2 := Lib.hid (he2.kept (Kept.below hb))
  obtain ⟨rp1, rc1, rfl, _⟩ := hr1
  obtain ⟨rp2, rc2, rfl, _⟩ := hr2
  obtain ⟨ep1, ec1, rfl, _⟩ := he1
  obtain ⟨ep2, ec2, rfl, _⟩ := he2
  obtain ⟨n, hn⟩ : ∃ n, n = rs.length := ⟨_, rfl⟩
  obtain ⟨m, hm⟩ : ∃ m, m = es.length := ⟨_, rfl⟩
  rw [← hn] at hW d0 d1 HR1 HR2 h1 ⊢
  rw [← hm] at hW d0 d1 HE1 HE2 h2 ⊢
  have HNM := Lib.hid (And.intro hn hm)
  have HB := Lib.hid hb
  have D0 := Lib.hid d0
  have D1 := Lib.hid d1
  clear h3 hn hm hb
  go_enter Tryz.func9, Tryz.ntmps9
  go_wp2_with fail
  rw [← hW]
  obtain ⟨c0, c1, c2, _, _⟩ := d0.cells
  obtain ⟨c3, c4, c5, _, _⟩ := d1.cells
  clear hW d0 d1
  generalize hNe : w.heap.size = N at *
  have HNE := Lib.hid hNe
  clear hNe
  go_wp2_with fail
  go_loopw [5] (fun iv wr => ∃ k : Nat, iv = .int .i64 k ∧ k ≤ n ∧ Below W0.heap.size W0 wr) (fun iv _ => n - (intOf iv).toNat)
  case atStart => exact ⟨0, rfl, Nat.zero_le _, Below.refl _ _⟩
  case round =>
    obtain ⟨k, rfl, hkn, hbr⟩ := hrel
    have HBR := Lib.hid hbr
    clear c0 c1 c2 c3 c4 c5
    obtain ⟨c0, c1, c2, _, _⟩ := (D0.out.below hbr).cells
    obtain ⟨c3, c4, c5, _, _⟩ := (D1.out.below hbr).cells
    by_cases hlt : k < n
    · have g1 : (k : Int) < (n : Int) := by omega
      obtain ⟨x, hxk⟩ : ∃ x, rs[k]? = some x := ⟨rs[k]'(by have := HNM.out.1; omega), List.getElem?_eq_getElem _⟩
      obtain ⟨b, o, rfl, _, hb, z0, z1, z2, z3⟩ := (HR1.out.kept (Kept.below hbr)).at k x hxk
      obtain ⟨b2, o2, rfl, _, hb2, y0, y1, y2, y3⟩ := (HR2.out.kept (Kept.below hbr)).at k x hxk
      have hq := neqR x wr
      have hq : ∀ wr, (binOp .neq 61 (rgAgg x) (rgAgg x)).run Tryz.prog wr = .ok (.bool false) wr := neqR x
      unfold rgAgg at hq
      clear hxk hbr c2 c5 c0 c3
      go_wp2_with fail
      go_quiet (fail)
      go_wp2_with fail
      go_roundw
      case rel => exact ⟨k + 1, by go_num, hlt, HBR.out.trans ((below_drewQ _ _).mono HBR.out.size)⟩
      case measure => (simp [intOf]; omega)
    · have g1 : ¬ (k : Int) < (n : Int) := by omega
      have hkk : k = n := by omega
      clear hbr hlt hkk
      go_wp2_with fail
      clear c0 c1 c2 c3 c4 c5 g1 hkn
      go_loopw [6] (fun iv wr => ∃ k : Nat, iv = .int .i64 k ∧ k ≤ m ∧ Below W0.heap.size W0 wr) (fun iv _ => m - (intOf iv).toNat)
      case atStart => exact ⟨0, rfl, Nat.zero_le _, HBR.out⟩
      case round =>
        clear HBR
        obtain ⟨k, rfl, hkm, hbr⟩ := hrel
        have HBR := Lib.hid hbr
        obtain ⟨c0, c1, c2, _, h0⟩ := (D0.out.below hbr).cells
        obtain ⟨c3, c4, c5, _, h1'⟩ := (D1.out.below hbr).cells
        by_cases hlt : k < m
        · have g1 : (k : Int) < (m : Int) := by omega
          obtain ⟨x, hxk⟩ : ∃ x, es[k]? = some x := ⟨es[k]'(by have := HNM.out.2; omega), List.getElem?_eq_getElem _⟩
          obtain ⟨b, o, v1, u1, rfl, hRb, hb, z0, z1, hi1, hu1⟩ := (HE1.out.kept (Kept.below hbr)).at k x hxk
          obtain ⟨b2, o2, v2, u2, rfl, hQb, hb2, y0, y1, hi2, hu2⟩ := (HE2.out.kept (Kept.below hbr)).at k x hxk
          have hxl := HH.out x (List.mem_of_getElem? hxk)
          have HCA : Hid (∀ u', Calls Tryz.prog 28 #[.agg #[v1, u1], .agg #[v2, u2]] (over wr u') fun e w' => e = .returned (.bool true) ∧ Below (over wr u').heap.size (over wr u') w') :=
            fun u' => sameX8_any R Q x v1 u1 v2 u2 _ (hi1.kept (Kept.below (below_over wr u'))) (hu1.kept (Kept.below (below_over wr u'))) (hi2.kept (Kept.below (below_over wr u'))) (hu2.kept (Kept.below (below_over wr u'))) hxl.1 hxl.2
          clear hxk hi1 hu1 hi2 hu2 hxl hbr hRb hQb c0 c1 c3 c4
          go_wp2_with fail
          refine wp_region_over (by kernel_rfl) (by kernel_rfl) ?_; (repeat (go_big_quiet_step (((go_at_call 28; exact over_of (HCA.out _)))))); refine wpQuiet_nil ?_; intro w1 hb1
          have HB1 := Lib.hid hb1
          clear hb1 c2 c5 z0 z1 y0 y1
          go_wp2_with fail
          go_roundw
          case rel => exact ⟨k + 1, by go_num, hlt, HBR.out.trans (HB1.out.mono HBR.out.size)⟩
          case measure => (simp [intOf]; omega)
        · have g1 : ¬ (k : Int) < (m : Int) := by omega
          clear hbr hlt
          go_wp2_with fail
          go_ret
          exact ⟨rfl, by rw [HNE.out]; exact HB.out.trans (HBR.out.mono (Nat.le_of_lt D0.out.cells.2.2.2.2))⟩
end Go.Proofs.YtjbcbejedaeedaaGreatDoor
