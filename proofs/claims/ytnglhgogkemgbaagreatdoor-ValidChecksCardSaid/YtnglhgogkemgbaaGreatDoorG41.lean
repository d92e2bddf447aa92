/- Package valid: variable: walked. -/
import Derived.Test.YtnglhgogkemgbaaGreatDoorG39
import Derived.Test.YtnglhgogkemgbaaGreatDoorG40
import Derived.Shelf.Abstract
namespace Go.Proofs.YtnglhgogkemgbaaGreatDoor
open Go.RowKit

theorem one_put {W : World} {b : Nat} {x v : Value} {t : TypeId} (h : W.heap[b]? = some (.cells #[x] t (0, 0))) : (W.setCell ⟨b, 0, none⟩ v).heap[b]? = some (.cells #[v] t (0, 0)) := by
  unfold World.setCell
  simp [Array.getElem?_modify, h]
theorem one_cell {W : World} {b : Nat} {x : Value} {t : TypeId} (h : W.heap[b]? = some (.cells #[x] t (0, 0))) : W.cell? ⟨b, 0, none⟩ = some x ∧ W.frozen? ⟨b, 0, none⟩ = false ∧ b < W.heap.size := by
  refine ⟨?_, ?_, (Array.getElem?_eq_some_iff.1 h).1⟩ <;> simp [World.cell?, World.frozen?, h]
theorem gst_yes {a : Int × Int × Int} {y : El} (h : plnB y = true) : (gst a y).2.2 = min a.2.2 y.1 := by
  unfold plnB at h
  simp at h
  unfold gst
  dsimp only
  rw [h.1, h.2]
  simp only [true_and]
  split <;> omega
theorem gst_no {a : Int × Int × Int} {y : El} (h : plnB y = false) : (gst a y).2.2 = a.2.2 := by
  unfold plnB at h
  unfold gst
  dsimp only
  rw [if_neg]
  rintro ⟨h1, h2, _⟩
  rw [h1, h2] at h; cases h
theorem varZ_none {g : Int × Int × Int} {x : Ent} (h : x.2.any (fun y => y.2.2.2) = false) : varZ g x = 0 := by
  unfold varZ varB
  rw [if_pos]
  rw [h, Bool.false_and, Bool.not_false, Bool.and_true, List.all_eq_true]
  intro y hy
  rw [List.any_eq_false] at h
  have := h y hy
  simp only [Bool.not_eq_true] at this
  rw [this]; rfl
theorem varZ_plain {g : Int × Int × Int} {x : Ent} (h : x.2.any (fun y => y.2.2.2) = true) (h2 : x.2.any plnB = true) : varZ g x = 111 := by
  unfold varZ varB
  rw [if_neg]
  rw [h, h2]; simp
theorem varZ_over {g : Int × Int × Int} {x : Ent} (h3 : x.2.any (fun y => y.2.2.2 && decide (g.2.2 ≤ y.1)) = true) : varZ g x = 111 := by
  unfold varZ varB
  rw [if_neg]
  intro h
  rw [Bool.and_eq_true, List.all_eq_true] at h
  rw [List.any_eq_true] at h3
  obtain ⟨y, hy, h4⟩ := h3
  have := h.1 y hy
  rw [h4] at this; cases this
theorem varZ_ok {g : Int × Int × Int} {x : Ent} (h2 : x.2.any plnB = false) (h3 : x.2.any (fun y => y.2.2.2 && decide (g.2.2 ≤ y.1)) = false) : varZ g x = 0 := by
  unfold varZ varB
  rw [if_pos]
  rw [h2, Bool.and_false, Bool.not_false, Bool.and_true, List.all_eq_true]
  intro y hy
  rw [List.any_eq_false] at h3
  have := h3 y hy
  rw [Bool.not_eq_true] at this
  rw [this]; rfl
set_option maxHeartbeats 8000000 in
set_option maxRecDepth 100000 in
theorem vvariable_any (R : Nat → Prop) (es : List Ent) (wb : Nat) (nv : Value) (ver : ByteArray) (rv ev t : Value) (w : World) (h : WkAt w wb nv ver rv ev t) (hv : EntsIn R w ev es) (hl : es.length ≤ 4000) (he : ∀ x ∈ es, x.2.length ≤ 16) :
    Calls Tryz.prog 22 #[.pointer (some ⟨wb, 0, none⟩)] w fun e w' => FstEnd (fstZ (varZ (greatV 65536 es)) 0 es) e ∧ Below w.heap.size w w' := by
  have HV := Lib.hid hv
  have HW := Lib.hid h
  obtain ⟨p, cp, rfl, _⟩ := hv
  obtain ⟨n, hn⟩ : ∃ n, n = es.length := ⟨_, rfl⟩
  rw [← hn] at HV hl HW
  have HNN := Lib.hid hn
  have HE := Lib.hid he
  have HFN : Hid (∀ f : Ent → Int, (∀ x ∈ es, f x = 0) → FstEnd (fstZ f 0 es) (.returned (.tuple #[]))) := fun f h => fst_end_none h
  obtain ⟨c0, c1, c2, c3, c4, _, cl⟩ := HW.out.cells
  have eg1 := enters_of Tryz.func56 (by kernel_rfl) rfl
  clear h he hn
  go_enter Tryz.func22, Tryz.ntmps22
  go_wp2_with fail
  have hx0 : (w.alloc (.cells #[.int .i64 65536] 3)).heap[w.heap.size]? = some (.cells #[.int .i64 65536] 3 (0, 0)) := World.alloc_heap_new _ _
  have hb0 : Below w.heap.size w (w.alloc (.cells #[.int .i64 65536] 3)) := (Below.refl _ w).alloc (Nat.le_refl _) _
  have HX0 := Lib.hid hx0
  have HB0 := Lib.hid hb0
  generalize w.alloc (.cells #[.int .i64 65536] 3) = V0 at *
  obtain ⟨lb, hlb⟩ : ∃ lb, lb = w.heap.size := ⟨_, rfl⟩
  rw [← hlb] at HX0 ⊢
  have HLB := Lib.hid hlb
  have HV1 : Hid (∀ V, Below w.heap.size w V → EntsIn (fun b => R b ∧ b < w.heap.size) V (.slice p n cp) es) := by
    show ∀ V, _
    intro V hV
    obtain ⟨q, cq, e1, e2⟩ := HV.out
    refine EntsIn.kept (w := w) ⟨q, cq, e1, fun i x hx => ?_⟩ (Kept.below hV)
    obtain ⟨b, o, c, u, g1, g2, g3, g4, g5, g6, g7⟩ := e2 i x hx
    exact ⟨b, o, c, u, g1, ⟨g2, g3⟩, g3, g4, g5, g6.mono (fun b h1 h2 => ⟨h1, h2⟩), g7.mono (fun b h1 h2 => ⟨h1, h2⟩)⟩
  clear hx0 hb0 hlb
  go_loopw [17] (fun iv wr => ∃ k : Nat, iv = .int .i64 k ∧ k ≤ n ∧ Below w.heap.size w wr ∧ wr.heap[lb]? = some (.cells #[.int .i64 (greatV 65536 (es.take k)).2.2] 3 (0, 0))) (fun iv _ => n - (intOf iv).toNat)
  case atStart => exact ⟨0, rfl, Nat.zero_le _, HB0.out, HX0.out⟩
  case round =>
    obtain ⟨k, rfl, hk, hb, hx⟩ := hrel
    have HB := Lib.hid hb
    have HX := Lib.hid hx
    by_cases hlt : k < n
    · have q1 : (k : Int) < (n : Int) := by omega
      obtain ⟨x, hx⟩ : ∃ x, es[k]? = some x := ⟨_, List.getElem?_eq_getElem (by have := HNN.out; omega)⟩
      obtain ⟨b, o, cv, uv, rfl, hbR, hbl, d0, d1, hci, hui⟩ := (HV1.out _ hb).at k x hx
      have hm16 := HE.out x (List.mem_of_getElem? hx)
      have HG := Lib.hid (greatV_take (p0 := 65536) hx)
      obtain ⟨pc, cc, rfl, _⟩ := hci
      have HU : Hid (∀ V, Below w.heap.size w V → ElsIn (fun b => R b ∧ b < w.heap.size) V uv x.2) := by
        show ∀ V, _
        intro V hV
        obtain ⟨_, _, _, _, e, _, _, _, g2, _, g4⟩ := (HV1.out _ hV).at k x hx
        cases e
        have h1 := (HV1.out _ (Below.refl _ w)).at k x hx
        obtain ⟨_, _, _, _, e, gR, _, _, g6, _, g8⟩ := h1
        cases e
        have e1 : V.cell? ⟨b, o + k * 2 + 1, none⟩ = w.cell? ⟨b, o + k * 2 + 1, none⟩ := World.cell?_of_block (w := w) (a := ⟨b, o + k * 2 + 1, none⟩) (hV.block b gR.2)
        have e2 : wr.cell? ⟨b, o + k * 2 + 1, none⟩ = w.cell? ⟨b, o + k * 2 + 1, none⟩ := World.cell?_of_block (w := w) (a := ⟨b, o + k * 2 + 1, none⟩) (HB.out.block b gR.2)
        rw [d1] at e2
        rw [g2, ← e2] at e1
        cases e1
        exact g4
      obtain ⟨pu, cu, rfl, _⟩ := hui
      obtain ⟨m, hm⟩ : ∃ m, m = x.2.length := ⟨_, rfl⟩
      rw [← hm] at hm16 d1 HU
      have HMM := Lib.hid hm
      have HLT := Lib.hid hlt
      obtain ⟨l, hcl⟩ : ∃ l, l = x.1.length := ⟨_, rfl⟩
      rw [← hcl] at d0
      generalize greatV 65536 (es.take k) = g0 at *
      clear hx hb hlt hk hm hcl
      go_wp2_with fail
      have HBX : Hid (Below w.heap.size w (wr.alloc (.cells #[.slice pc l cc, .slice pu m cu] 45))) := HB.out.alloc HB.out.size _
      have HXX : Hid ((wr.alloc (.cells #[.slice pc l cc, .slice pu m cu] 45)).heap[lb]? = some (.cells #[.int .i64 g0.2.2] 3 (0, 0))) := by
        show _ = _
        rw [Below.heap_alloc _ _ _ (one_cell HX.out).2.2]; exact HX.out
      generalize wr.alloc (.cells #[.slice pc l cc, .slice pu m cu] 45) = W0 at *
      go_loopw [24] (fun jv wr => ∃ j : Nat, jv = .int .i64 j ∧ j ≤ m ∧ Below w.heap.size w wr ∧ wr.heap[lb]? = some (.cells #[.int .i64 ((x.2.take j).foldl gst g0).2.2] 3 (0, 0))) (fun jv _ => m - (intOf jv).toNat)
      case atStart => exact ⟨0, rfl, Nat.zero_le _, HBX.out, HXX.out⟩
      case round =>
        obtain ⟨j, rfl, hj, hbj, hxj⟩ := hrel
        have HBJ := Lib.hid hbj
        have HXJ := Lib.hid hxj
        by_cases hjt : j < m
        · have q2 : (j : Int) < (m : Int) := by omega
          obtain ⟨y, hy⟩ : ∃ y, x.2[j]? = some y := ⟨_, List.getElem?_eq_getElem (by have := HMM.out; omega)⟩
          obtain ⟨b2, o2, rfl, _, hbl2, e0, e1, e2, e3⟩ := (HU.out _ hbj).at j y hy
          have HGY := Lib.hid (gst_take (g := g0) hy)
          have HJT := Lib.hid hjt
          have HPL := Lib.hid (fun W => plain_any y W)
          generalize (x.2.take j).foldl gst g0 = g1 at *
          have HYS := Lib.hid (gst_yes (a := g1) (y := y))
          have HNS := Lib.hid (gst_no (a := g1) (y := y))
          obtain ⟨y1, y2, y3, y4⟩ := y
          unfold elAgg at HPL
          dsimp only at e0 e1 e2 e3 HPL HYS HNS
          have HRO : Hid (∀ (W : World) (z : Int), (gst g1 (y1, y2, y3, y4)).2.2 = z → Below w.heap.size w W → W.heap[lb]? = some (.cells #[.int .i64 z] 3 (0, 0)) → ∃ j' : Nat, Value.int .i64 ((j : Int) + 1) = .int .i64 j' ∧ j' ≤ m ∧ Below w.heap.size w W ∧ W.heap[lb]? = some (.cells #[.int .i64 ((x.2.take j').foldl gst g0).2.2] 3 (0, 0))) := by
            show ∀ W z, _
            rintro W z rfl h1 h2
            exact ⟨j + 1, by simp, HJT.out, h1, by rw [HGY.out]; exact h2⟩
          obtain ⟨z0, hz0⟩ : ∃ z0, g1.2.2 = z0 := ⟨_, rfl⟩
          rw [hz0] at HXJ HYS HNS
          clear hy hbj hjt hj hxj HGY hz0
          cases hp : plnB (y1, y2, y3, y4) with
          | true =>
            rw [hp] at HPL
            have HG2 := Lib.hid (HYS.out hp)
            clear hp HYS HNS
            rcases Int.lt_or_le y1 z0 with k1 | k1
            all_goals (
              have HK := Lib.hid k1
              go_wp2_with fail
              have hcx : (wr.alloc (.cells #[.int .i64 y1, .int .i64 y2, .int .i64 y3, .bool y4] 73)).cell? ⟨wr.heap.size, 0, none⟩ = some (.int .i64 y1) := by rw [World.cell?_alloc_at _ _ _ _ rfl]; rfl
              have hzz : wr.heap.size < (wr.alloc (.cells #[.int .i64 y1, .int .i64 y2, .int .i64 y3, .bool y4] 73)).heap.size := by simp
              have HB1 : Hid (Below w.heap.size w (wr.alloc (.cells #[.int .i64 y1, .int .i64 y2, .int .i64 y3, .bool y4] 73))) := HBJ.out.alloc HBJ.out.size _
              have hl1 : (wr.alloc (.cells #[.int .i64 y1, .int .i64 y2, .int .i64 y3, .bool y4] 73)).heap[lb]? = some (.cells #[.int .i64 z0] 3 (0, 0)) := by
                rw [Below.heap_alloc _ _ _ (one_cell HXJ.out).2.2]; exact HXJ.out
              generalize wr.alloc (.cells #[.int .i64 y1, .int .i64 y2, .int .i64 y3, .bool y4] 73) = W1 at *
              refine (HPL.out _).mono ?_
              rintro e w2 ⟨rfl, hb2⟩
              have f0 := (hb2.cell (p := ⟨wr.heap.size, 0, none⟩) hzz).trans hcx
              have hz2 : wr.heap.size < w2.heap.size := Nat.lt_of_lt_of_le hzz hb2.size
              have hl2 := (hb2.block lb (one_cell hl1).2.2).trans hl1
              obtain ⟨l0, l1, l2⟩ := one_cell hl2
              have HB2 := Lib.hid (HB1.out.trans (hb2.mono HB1.out.size))
              have HL2 := Lib.hid hl2
              clear hb2 hcx hzz hl1 hl2 k1
              have k1 := HK.out
              go_wp2_with fail
              go_roundw
              case rel => exact HRO.out _ _ (by rw [HG2.out]; have := HK.out; omega) (HB2.out.setCell (p := ⟨lb, 0, none⟩) (by have := HLB.out; show _ ≤ lb; omega) _) (one_put HL2.out)
              case measure => (have := HJT.out; simp [intOf]; omega))
          | false =>
            rw [hp] at HPL
            have HG2 := Lib.hid (HNS.out hp)
            clear hp HYS HNS
            go_wp2_with fail
            have HB1 : Hid (Below w.heap.size w (wr.alloc (.cells #[.int .i64 y1, .int .i64 y2, .int .i64 y3, .bool y4] 73))) := HBJ.out.alloc HBJ.out.size _
            have hl1 : (wr.alloc (.cells #[.int .i64 y1, .int .i64 y2, .int .i64 y3, .bool y4] 73)).heap[lb]? = some (.cells #[.int .i64 z0] 3 (0, 0)) := by
              rw [Below.heap_alloc _ _ _ (one_cell HXJ.out).2.2]; exact HXJ.out
            generalize wr.alloc (.cells #[.int .i64 y1, .int .i64 y2, .int .i64 y3, .bool y4] 73) = W1 at *
            refine (HPL.out _).mono ?_
            rintro e w2 ⟨rfl, hb2⟩
            have HL2 := Lib.hid ((hb2.block lb (one_cell hl1).2.2).trans hl1)
            have HB2 := Lib.hid (HB1.out.trans (hb2.mono HB1.out.size))
            clear hb2 hl1
            go_wp2_with fail
            go_roundw
            case rel => exact HRO.out _ _ HG2.out HB2.out HL2.out
            case measure => (have := HJT.out; simp [intOf]; omega)
        · have q2 : ¬ (j : Int) < (m : Int) := by omega
          have HJE : Hid (x.2.take j = x.2) := List.take_of_length_le (by have := HMM.out; omega)
          have HRO : Hid (∃ k' : Nat, Value.int .i64 ((k : Int) + 1) = .int .i64 k' ∧ k' ≤ n ∧ Below w.heap.size w wr ∧ wr.heap[lb]? = some (.cells #[.int .i64 (greatV 65536 (es.take k')).2.2] 3 (0, 0))) := by
            refine ⟨k + 1, by simp, HLT.out, HBJ.out, ?_⟩
            have := HXJ.out
            rw [HJE.out] at this
            rw [HG.out]; exact this
          clear hj hjt hbj hxj
          go_wp2_with fail
          go_roundw
          case rel => exact HRO.out
          case measure => (have := HLT.out; simp [intOf]; omega)
    · have q1 : ¬ (k : Int) < (n : Int) := by omega
      have HEE : Hid (es.take k = es) := List.take_of_length_le (by have := HNN.out; omega)
      have HXE : Hid (wr.heap[lb]? = some (.cells #[.int .i64 (greatV 65536 es).2.2] 3 (0, 0))) := by have := HX.out; rw [HEE.out] at this; exact this
      clear hlt hk hb hx HX HEE HX0 HB0
      obtain ⟨e0, e1, e2, e3, e4, _, el⟩ := (HW.out.below HB.out).cells
      obtain ⟨g, hg⟩ : ∃ g, greatV 65536 es = g := ⟨_, rfl⟩
      rw [hg] at HXE
      have HGE := Lib.hid hg
      clear hg
      have HBV := Lib.hid HB.out
      clear HB
      have HC3 : Hid (∀ V, Below w.heap.size w V → V.cell? ⟨wb, 3, none⟩ = some (.slice p n cp)) := fun V hV => (HW.out.below hV).cells.2.2.2.1
      generalize wr = V1 at *
      go_wp2_with fail
      have HPI := Lib.hid (fun (R : Nat → Prop) (xs : List El) (v : Value) (W : World) (h : ElsIn R W v xs) (hx : xs.length ≤ 1000000000) => containsFuncEl_any R xs v 57 #[] (fun y => y.2.2.2) (fun _ => True) (enters_of Tryz.func57 (by kernel_rfl) rfl) (fun _ _ _ _ => trivial) (fun y W _ => isvar_any y W) W trivial h hx)
      have HPP := Lib.hid (fun (R : Nat → Prop) (xs : List El) (v : Value) (W : World) (h : ElsIn R W v xs) (hx : xs.length ≤ 1000000000) => containsFuncEl_any R xs v 56 #[] plnB (fun _ => True) (enters_of Tryz.func56 (by kernel_rfl) rfl) (fun _ _ _ _ => trivial) (fun y W _ => plain_any y W) W trivial h hx)
      have HPO := Lib.hid (fun (g2 : Int) (R : Nat → Prop) (xs : List El) (v : Value) (W : World) (hc : W.cell? ⟨lb, 0, none⟩ = some (.int .i64 g2)) (h : ElsIn R W v xs) (hx : xs.length ≤ 1000000000) => containsFuncEl_any R xs v 59 #[.pointer (some ⟨lb, 0, none⟩)] (fun y => y.2.2.2 && decide (g2 ≤ y.1)) (fun W => W.cell? ⟨lb, 0, none⟩ = some (.int .i64 g2)) (enters_of Tryz.func59 (by kernel_rfl) rfl) (fun W W' h hb => by
        have hl : lb < W.heap.size := by
          rcases Nat.lt_or_ge lb W.heap.size with h' | h'
          · exact h'
          · simp [World.cell?, Array.getElem?_eq_none h'] at h
        exact (hb.cell (p := ⟨lb, 0, none⟩) hl).trans h) (fun y W hW => overv_any lb g2 y W hW) W hc h hx)
      go_loopw [43] (fun iv wr => ∃ k : Nat, iv = .int .i64 k ∧ k ≤ n ∧ (∀ (j : Nat) x, j < k → es[j]? = some x → varZ g x = 0) ∧ Below V1.heap.size V1 wr) (fun iv _ => n - (intOf iv).toNat)
      case atStart => exact ⟨0, rfl, Nat.zero_le _, fun j x hj => absurd hj (Nat.not_lt_zero _), Below.refl _ _⟩
      case round =>
        obtain ⟨k, rfl, hk, hd, hb1⟩ := hrel
        have HD := Lib.hid hd
        have hb : Below w.heap.size w wr := HBV.out.trans (hb1.mono HBV.out.size)
        have HB := Lib.hid hb
        have HX := Lib.hid ((hb1.block lb (one_cell HXE.out).2.2).trans HXE.out)
        have HB1 := Lib.hid hb1
        by_cases hlt : k < n
        · have q1 : (k : Int) < (n : Int) := by omega
          obtain ⟨x, hx⟩ : ∃ x, es[k]? = some x := ⟨_, List.getElem?_eq_getElem (by have := HNN.out; omega)⟩
          obtain ⟨b, o, cv, uv, rfl, hbR, hbl, d0, d1, hci, hui⟩ := (HV1.out _ hb).at k x hx
          have hm16 := HE.out x (List.mem_of_getElem? hx)
          obtain ⟨pc, cc, rfl, _⟩ := hci
          have HU := Lib.hid hui
          obtain ⟨pu, cu, rfl, _⟩ := hui
          obtain ⟨m, hm⟩ : ∃ m, m = x.2.length := ⟨_, rfl⟩
          have HM16 : Hid (x.2.length ≤ 1000000000) := by show _ ≤ _; omega
          rw [← hm] at hm16 d1 HU
          have HLT := Lib.hid hlt
          obtain ⟨l, hcl⟩ : ∃ l, l = x.1.length := ⟨_, rfl⟩
          rw [← hcl] at d0
          have HGO : Hid (varZ g x = 0 → ∀ W, Below V1.heap.size V1 W → ∃ k' : Nat, Value.int .i64 ((k : Int) + 1) = .int .i64 k' ∧ k' ≤ n ∧ (∀ (j : Nat) x, j < k' → es[j]? = some x → varZ g x = 0) ∧ Below V1.heap.size V1 W) := by
            show _ → ∀ W, _
            intro hz W hW
            refine ⟨k + 1, by simp, HLT.out, fun i z hi hzz => ?_, hW⟩
            rcases Nat.lt_succ_iff_lt_or_eq.1 hi with h | rfl
            · exact HD.out i z h hzz
            · rw [hx] at hzz; cases hzz; exact hz
          have HTH : Hid (varZ g x = 111 → FstEnd (fstZ (varZ g) 0 es) (.panicked (chainV k 111))) := by
            show _ → _
            intro hz
            exact fst_end_at hx HD.out hz (by decide)
          clear hx hb hb1 hlt hk hm hcl hd
          go_wp2_with fail
          have ha : Below wr.heap.size wr (wr.alloc (.cells #[.slice pc l cc, .slice pu m cu] 45)) := (Below.refl _ wr).alloc (Nat.le_refl _) _
          have h2c : (wr.alloc (.cells #[.slice pc l cc, .slice pu m cu] 45)).cell? ⟨wr.heap.size, 1, none⟩ = some (.slice pu m cu) := by rw [World.cell?_alloc_at _ _ _ _ rfl]; rfl
          have hzz : wr.heap.size < (wr.alloc (.cells #[.slice pc l cc, .slice pu m cu] 45)).heap.size := by simp
          have HBX : Hid (Below V1.heap.size V1 (wr.alloc (.cells #[.slice pc l cc, .slice pu m cu] 45))) := HB1.out.alloc HB1.out.size _
          have HXX : Hid ((wr.alloc (.cells #[.slice pc l cc, .slice pu m cu] 45)).heap[lb]? = some (.cells #[.int .i64 g.2.2] 3 (0, 0))) := (ha.block lb (one_cell HX.out).2.2).trans HX.out
          have HU0 := Lib.hid (HU.out.kept (Kept.below ha))
          generalize wr.alloc (.cells #[.slice pc l cc, .slice pu m cu] 45) = W0 at *
          have h1 := HPI.out _ x.2 _ W0 HU0.out HM16.out
          clear ha
          with_reducible refine h1.mono ?_
          rintro e w2 ⟨rfl, hb2⟩
          have f1 := (hb2.cell (p := ⟨wr.heap.size, 1, none⟩) hzz).trans h2c
          have hz2 : wr.heap.size < w2.heap.size := Nat.lt_of_lt_of_le hzz hb2.size
          have HB2 := Lib.hid (HBX.out.trans (hb2.mono HBX.out.size))
          have HX2 := Lib.hid ((hb2.block lb (one_cell HXX.out).2.2).trans HXX.out)
          have HU2 := Lib.hid (HU0.out.kept (Kept.below hb2))
          clear hb2 h1 h2c hzz
          cases ha1 : x.2.any (fun y => y.2.2.2) with
          | false =>
            have HZ := Lib.hid (varZ_none (g := g) ha1)
            clear ha1
            go_wp2_with fail
            go_roundw
            case rel => exact HGO.out HZ.out _ HB2.out
            case measure => (have := HLT.out; simp [intOf]; omega)
          | true =>
            have HA1 := Lib.hid ha1
            clear ha1
            go_wp2_with fail
            have h1 := HPP.out _ x.2 _ w2 HU2.out HM16.out
            with_reducible refine h1.mono ?_
            rintro e w3 ⟨rfl, hb3⟩
            have f2 := (hb3.cell (p := ⟨wr.heap.size, 1, none⟩) hz2).trans f1
            have hz3 : wr.heap.size < w3.heap.size := Nat.lt_of_lt_of_le hz2 hb3.size
            have HB3 := Lib.hid (HB2.out.trans (hb3.mono HB2.out.size))
            have HX3 := Lib.hid ((hb3.block lb (one_cell HX2.out).2.2).trans HX2.out)
            have HU3 := Lib.hid (HU2.out.kept (Kept.below hb3))
            clear hb3 h1 f1 hz2
            cases ha2 : x.2.any plnB with
            | true =>
              have HT := Lib.hid (HTH.out (varZ_plain HA1.out ha2))
              clear ha2
              go_wp2_with fail
              with_reducible refine (vmust_no (k : Int) 111 (by decide) _).mono ?_
              rintro e w' ⟨rfl, rfl⟩
              have HBW := Lib.hid (HBV.out.trans (HB3.out.mono HBV.out.size))
              go_wp2_with fail
              exact ⟨rfl, by rw [HGE.out]; exact HT.out, HBW.out⟩
            | false =>
              have HA2 := Lib.hid ha2
              clear ha2
              have hmf : ∀ (fn : Fn) (first cap : Array Value) (w : World), (Instr.makeFunc fn first cap).run Tryz.prog w = .ok (.func fn first cap) w := fun _ _ _ _ => rfl
              go_wp2_with fail
              have h1 := HPO.out g.2.2 _ x.2 _ w3 (one_cell HX3.out).1 HU3.out HM16.out
              with_reducible refine h1.mono ?_
              rintro e w4 ⟨rfl, hb4⟩
              have HB4 := Lib.hid (HB3.out.trans (hb4.mono HB3.out.size))
              clear hb4 h1
              cases ha3 : x.2.any (fun y => y.2.2.2 && decide (g.2.2 ≤ y.1)) with
              | true =>
                have HT := Lib.hid (HTH.out (varZ_over ha3))
                clear ha3
                go_wp2_with fail
                with_reducible refine (vmust_no (k : Int) 111 (by decide) _).mono ?_
                rintro e w' ⟨rfl, rfl⟩
                have HBW := Lib.hid (HBV.out.trans (HB4.out.mono HBV.out.size))
                go_wp2_with fail
                exact ⟨rfl, by rw [HGE.out]; exact HT.out, HBW.out⟩
              | false =>
                have HZ := Lib.hid (varZ_ok (g := g) HA2.out ha3)
                clear ha3
                go_wp2_with fail
                go_roundw
                case rel => exact HGO.out HZ.out _ HB4.out
                case measure => (have := HLT.out; simp [intOf]; omega)
        · have q1 : ¬ (k : Int) < (n : Int) := by omega
          have HFE : Hid (FstEnd (fstZ (varZ g) 0 es) (.returned (.tuple #[]))) := by
            refine HFN.out _ (fun x hx => ?_)
            obtain ⟨j, hj⟩ := List.getElem?_of_mem hx
            exact HD.out j x (by have := (List.getElem?_eq_some_iff.1 hj).1; have := HNN.out; omega) hj
          clear hlt hk hb hd hb1
          go_wp2_with fail
          go_end0
          exact ⟨by rw [HGE.out]; exact HFE.out, HB.out⟩
end Go.Proofs.YtnglhgogkemgbaaGreatDoor
