/- What is taken is found: the law's walk. -/
import Derived.Test.YtcifoallahmjbaaTw
namespace Go.Proofs.Ytcifoallahmjbaa
open Go.RowKit

theorem ck_zero {es : List Ent} (h : ckE es = 0) : es.length ≤ 4000 ∧ Apart es ∧ (∀ x ∈ es, eErr x = 0) ∧ ckA es = 0 := by
  by_cases hb : 4000 < es.length
  · unfold ckE at h; rw [if_pos hb] at h; cases h
  · unfold ckE at h; rw [if_neg hb] at h
    have hf : fstBad es = none := by
      cases hf : fstBad es with
      | none => rfl
      | some i =>
        rw [hf] at h
        have := List.find?_some hf
        simp at this; simp at h; exact absurd h this
    have hall := fst_none_all hf
    have herr : ∀ i x, es[i]? = some x → eErr x = 0 := fun i x hx => by
      by_cases he : eErr x = 0
      · exact he
      · have := hall i (List.getElem?_eq_some_iff.1 hx).1
        rw [badAt_err hx he] at this; exact absurd this he
    refine ⟨by omega, ?_, fun x hx => ?_, ?_⟩
    · unfold Apart
      rw [List.pairwise_iff_getElem]
      intro i j hi hj hij e
      simp only [List.getElem_map, List.length_map] at hi hj e
      have hx : es[i]? = some es[i] := List.getElem?_eq_getElem hi
      have hy : es[j]? = some es[j] := List.getElem?_eq_getElem hj
      have hm : es[i] ∈ es.take j := List.mem_of_getElem? (by rw [List.getElem?_take_of_lt hij]; exact hx)
      obtain ⟨k, hk⟩ := idx_isSome hm
      rw [e] at hk
      have h1 := badAt_twin hy (herr _ _ hy) hk
      rw [hall j hj] at h1; cases h1
    · obtain ⟨i, hi⟩ := List.getElem?_of_mem hx
      exact herr i x hi
    · unfold ckA; rw [if_neg hb, hf]
theorem found_self {es : List Ent} (h : ckE es = 0) {i : Nat} {x : Ent} (hx : es[i]? = some x) :
    (idx es x.1).isSome = true ∧ elsOf es (idx es x.1) = x.2 ∧ lenOf es (lgo es x.1 x.1.length) = x.1.length ∧ elsOf es (lgo es x.1 x.1.length) = x.2 := by
  obtain ⟨_, hap, hz, _⟩ := ck_zero h
  have hi := idx_self hap hx
  have h1 := (eErr_zero (hz x (List.mem_of_getElem? hx))).1
  have hg : lgo es x.1 x.1.length = some i := by
    obtain ⟨k, hk⟩ : ∃ k, x.1.length = k + 1 := ⟨x.1.length - 1, by omega⟩
    rw [hk, lgo, ← hk, List.take_length, hi]
  rw [hi, hg]
  simp [elsOf, lenOf, hx]

theorem EntsIn.mono {R S : Nat → Prop} {w : World} {v : Value} {es : List Ent} (h : EntsIn R w v es) (hm : ∀ b, R b → b < w.heap.size → S b) : EntsIn S w v es := by
  obtain ⟨p, cap, h1, h2⟩ := h
  refine ⟨p, cap, h1, fun i x hx => ?_⟩
  obtain ⟨b, o, c, u, e1, e2, e3, e4, e5, e6, e7⟩ := h2 i x hx
  exact ⟨b, o, c, u, e1, hm b e2 e3, e3, e4, e5, e6.mono hm, e7.mono hm⟩
/-- the law's rounds -/
def MkRel (es : List Ent) (w : World) (B tb : Nat) (N : NMap) (root : Nat) (lv : Value) (n : Nat) (vs : List (Value × Value)) (i : Nat) (W : World) : Prop :=
  i ≤ es.length ∧ Below w.heap.size w W ∧ ∃ a : Int, a = 2 * (i : Int) ∧ NewAt B W tb es es (es.map (·.1)) N root lv n a vs

set_option maxHeartbeats 8000000 in
set_option maxRecDepth 100000 in
theorem makes_any (es : List Ent) (v : Value) (w : World) (hv : EntsIn (· < w.heap.size) w v es) (hok : ∀ x ∈ es, EntOk x) (hl : es.length ≤ 140737488351232) :
    Calls Try.prog 3 #[v] w fun e w' => e = .returned (.bool true) ∧ Below w.heap.size w w' := by
  have HV := Lib.hid hv
  obtain ⟨p, cp, rfl, _⟩ := hv
  have HOK := Lib.hid hok
  have HL := Lib.hid hl
  clear hok
  go_enter Try.func3, Try.ntmps3
  go_wp2_with fail
  refine (awake_any _).mono ?_
  rintro e w1 ⟨rfl, hb1⟩
  have HB1 := Lib.hid hb1
  clear hb1
  go_wp2_with fail
  refine (few_any _ es _ _ (HV.out.kept (Kept.below HB1.out)) HOK.out HL.out).mono ?_
  rintro e w2 ⟨bf, rfl, hb2⟩
  have HB2 : Hid (Below w.heap.size w w2) := HB1.out.trans (hb2.mono HB1.out.size)
  clear hb2
  by_cases hgo : bf = false ∧ es.length ≤ 4000
  · obtain ⟨rfl, h4⟩ := hgo
    have d1 : decide ((es.length : Int) ≤ 4000) = true := decide_eq_true (by omega)
    have d2 : decide (es.length ≤ 4000) = true := decide_eq_true h4
    clear h4
    go_wp2_with fail
    go_ret
    exact ⟨rfl, HB2.out⟩
  have HGO := Lib.hid hgo
  clear hgo
  have hcont : ∀ (b : Bool), True := fun _ => trivial
  cases bf
  · have h4 : ¬ es.length ≤ 4000 := fun h => HGO.out ⟨rfl, h⟩
    have d1 : decide ((es.length : Int) ≤ 4000) = false := decide_eq_false (by omega)
    have d2 : decide (es.length ≤ 4000) = false := decide_eq_false h4
    have HE : Hid (ckE es ≠ 0) := fun h => h4 (ck_zero h).1
    clear h4
    go_wp2_with fail
    refine (new_any es _ _ ((HV.out.kept (Kept.below HB2.out)).mono (fun b _ hb => hb)) HOK.out HL.out).mono ?_
    rintro e w3 ⟨hb3, h⟩
    obtain ⟨_, rfl⟩ := h.resolve_left (fun h => HE.out h.1)
    have HB3 : Hid (Below w.heap.size w w3) := HB2.out.trans (hb3.mono HB2.out.size)
    have hne : (ckE es != 0) = true := by have := HE.out; simpa using this
    clear hb3 h
    go_wp2_with fail
    refine (rCheck_any _ es _ _ (HV.out.kept (Kept.below HB3.out)) HOK.out HL.out).mono ?_
    rintro e w4 ⟨rfl, hb4⟩
    have HB4 : Hid (Below w.heap.size w w4) := HB3.out.trans (hb4.mono HB3.out.size)
    clear hb4
    go_wp2_with fail
    go_ret
    exact ⟨rfl, HB4.out⟩
  · clear hcont
    by_cases hE : ckE es ≠ 0
    · have HE : Hid (ckE es ≠ 0) := hE
      clear hE
      go_wp2_with fail
      refine (new_any es _ _ ((HV.out.kept (Kept.below HB2.out)).mono (fun b _ hb => hb)) HOK.out HL.out).mono ?_
      rintro e w3 ⟨hb3, h⟩
      obtain ⟨_, rfl⟩ := h.resolve_left (fun h => HE.out h.1)
      have HB3 : Hid (Below w.heap.size w w3) := HB2.out.trans (hb3.mono HB2.out.size)
      have hne : (ckE es != 0) = true := by have := HE.out; simpa using this
      clear hb3 h
      go_wp2_with fail
      refine (rCheck_any _ es _ _ (HV.out.kept (Kept.below HB3.out)) HOK.out HL.out).mono ?_
      rintro e w4 ⟨rfl, hb4⟩
      have HB4 : Hid (Below w.heap.size w w4) := HB3.out.trans (hb4.mono HB3.out.size)
      clear hb4
      go_wp2_with fail
      go_ret
      exact ⟨rfl, HB4.out⟩
    · obtain ⟨h4, _, _, hA0⟩ := ck_zero (Decidable.not_not.1 hE)
      have hE0 : ckE es = 0 := Decidable.not_not.1 hE
      have HE := Lib.hid hE0
      have HA : Hid (ckA es = 0) := hA0
      clear hE hA0 hE0
      go_wp2_with fail
      refine (new_any es _ _ ((HV.out.kept (Kept.below HB2.out)).mono (fun b _ hb => hb)) HOK.out HL.out).mono ?_
      rintro e w3 ⟨hb3, h⟩
      obtain ⟨_, tb, N, root, lv, n, vs, rfl, hN⟩ := h.resolve_right (fun h => h.1 HE.out)
      have HB3 : Hid (Below w.heap.size w w3) := HB2.out.trans (hb3.mono HB2.out.size)
      have HN := Lib.hid hN
      clear hb3 h hN
      go_wp2_with fail
      have hck := rCheck_any _ es _ _ (HV.out.kept (Kept.below HB3.out)) HOK.out HL.out
      rw [HA.out, HE.out] at hck
      refine hck.mono ?_
      rintro e w4 ⟨rfl, hb4⟩
      have HB4 : Hid (Below w.heap.size w w4) := HB3.out.trans (hb4.mono HB3.out.size)
      have HN4 := Lib.hid (HN.out.below hb4)
      clear hb4 hck
      go_wp2_with fail
      refine (len_any HN4.out).mono ?_
      rintro e w5 ⟨rfl, rfl⟩
      go_wp2
      go_loopw [58] (fun iv wr => ∃ i : Nat, iv = .int .i64 i ∧ MkRel es w w2.heap.size tb N root lv n vs i wr) (fun iv _ => es.length - (intOf iv).toNat)
      case atStart => exact ⟨0, rfl, Nat.zero_le _, HB4.out, 0, rfl, HN4.out⟩
      case round =>
        obtain ⟨i, rfl, hr⟩ := hrel
        obtain ⟨hi, hbw, a, ha, hN⟩ := hr
        have HI := Lib.hid hi
        have HBW := Lib.hid hbw
        have HNA := Lib.hid hN
        have HAA := Lib.hid ha
        clear hi hbw hN ha
        obtain ⟨wo, rfl⟩ : ∃ wo : World, wo = wr := ⟨_, rfl⟩
        by_cases hlt : i < es.length
        · have hlt' : decide (i < es.length) = true := decide_eq_true hlt
          obtain ⟨x, hx⟩ : ∃ x, es[i]? = some x := ⟨es[i], List.getElem?_eq_getElem hlt⟩
          obtain ⟨b, o, c, u, rfl, hbR, hbl, hc0, hc1, hci, hue⟩ := (HV.out.kept (Kept.below HBW.out)).at i x hx
          have HX := Lib.hid hx
          have HLT := Lib.hid hlt
          have HOX := Lib.hid (HOK.out x (List.mem_of_getElem? hx))
          have HCI := Lib.hid hci
          have HUE := Lib.hid hue
          obtain ⟨pc, cc, rfl, _⟩ := hci
          obtain ⟨pu, cu, rfl, _⟩ := hue
          have hx1 : x.1.length ≤ 35184372087808 := by have := HOX.out.1; omega
          have hx2 : x.2.length ≤ 4398046510976 := by have := HOX.out.2.1; omega
          have HFS := Lib.hid (found_self HE.out hx)
          clear hx hlt
          go_wp2_with fail
          have HBA : Hid (Below wo.heap.size wo (wo.alloc (.cells #[.slice pc x.1.length cc, .slice pu x.2.length cu] 35))) := (Below.refl _ wo).alloc (Nat.le_refl _) _
          have HR : Hid (∀ b, b < w.heap.size → b ≠ tb) := fun b hb => by have := HNA.out.tB; have := HB2.out.size; omega
          have hg := get_any (· < w.heap.size) x.1 _ (HNA.out.below HBA.out) HR.out (HCI.out.kept (Kept.below HBA.out)) (by unfold maxLen; omega) HOX.out.2.2 (by have := HAA.out; omega) (by have := HAA.out; have := HLT.out; omega) HOK.out HL.out
          rw [HFS.out.1, HFS.out.2.1] at hg
          refine hg.mono ?_
          rintro e w6 ⟨u6, rfl, hu6, hN6, hO6⟩
          have HN6 := Lib.hid hN6
          have HU6 := Lib.hid hu6
          have HTB : Hid (w.heap.size ≤ tb ∧ tb < wo.heap.size) := ⟨by have := HNA.out.tB; have := HB2.out.size; omega, HNA.out.tlt⟩
          have HB6 : Hid (Below w.heap.size w w6) := only_below (HBW.out.trans (HBA.out.mono HBW.out.size)) (Nat.le_refl _) hO6 (fun b hb => by have := HTB.out; omega)
          have HK6 : Hid (Kept (· < w.heap.size) wo w6) := (Kept.below HBA.out).trans (Kept.only hO6 HR.out)
          have HEB : Hid (w6.heap[wo.heap.size]? = some (.cells #[.slice pc x.1.length cc, .slice pu x.2.length cu] 35 (0, 0))) := (hO6.block _ (by simp) (fun e => by have := HTB.out; omega)).trans (World.alloc_heap_new _ _)
          have k0 : w6.cell? ⟨wo.heap.size, 0, none⟩ = some (.slice pc x.1.length cc) := by simp [World.cell?, HEB.out]
          obtain ⟨p6, c6, rfl, _⟩ := hu6
          clear hg hN6 hO6
          go_wp2_with fail
          have hg := longest_any (· < w.heap.size) x.1 _ HN6.out HR.out (HCI.out.kept HK6.out) (by unfold maxLen; omega) HOX.out.2.2 (by have := HAA.out; omega) (by have := HAA.out; have := HLT.out; omega) HOK.out HL.out
          rw [HFS.out.2.2.1, HFS.out.2.2.2] at hg
          refine hg.mono ?_
          rintro e w7 ⟨u7, rfl, hu7, hN7, hO7⟩
          have HN7 := Lib.hid hN7
          have HU7 := Lib.hid hu7
          have HB7 : Hid (Below w.heap.size w w7) := only_below HB6.out (Nat.le_refl _) hO7 (fun b hb => by have := HTB.out; omega)
          have HK7 : Hid (Kept (· < w.heap.size) wo w7) := HK6.out.trans (Kept.only hO7 HR.out)
          have HEB7 : Hid (w7.heap[wo.heap.size]? = some (.cells #[.slice pc x.1.length cc, .slice pu x.2.length cu] 35 (0, 0))) := (hO7.block _ ((Array.getElem?_eq_some_iff.1 HEB.out).1) (fun e => by have := HTB.out; omega)).trans HEB.out
          have m0 : w7.cell? ⟨wo.heap.size, 0, none⟩ = some (.slice pc x.1.length cc) := by simp [World.cell?, HEB7.out]
          have m1 : w7.cell? ⟨wo.heap.size, 1, none⟩ = some (.slice pu x.2.length cu) := by simp [World.cell?, HEB7.out]
          obtain ⟨p7, c7, rfl, _⟩ := hu7
          have HU67 : Hid (ElsIn (Lf (wo.alloc (.cells #[.slice pc x.1.length cc, .slice pu x.2.length cu] 35)).heap.size w6) w7 (.slice p6 x.2.length c6) x.2) := HU6.out.kept (Kept.only hO7 (fun b hb => lf_apart hb HN6.out.tcell (by decide) (by decide)))
          have HM : Hid (x.2.length ≤ maxLen) := by show _ ≤ _; unfold maxLen; omega
          clear hg hN7 hO7 k0
          go_wp2_with fail
          have hs := same7_any _ _ x.2 x.2 _ _ _ HU67.out (HUE.out.kept HK7.out) HM.out HM.out
          rw [decide_eq_true (rfl : x.2 = x.2)] at hs
          refine hs.mono ?_
          rintro e w8 ⟨rfl, hb8⟩
          have HB8 := Lib.hid hb8
          have HHL : Hid (wo.heap.size < w7.heap.size) := (Array.getElem?_eq_some_iff.1 HEB7.out).1
          have q0 : w8.cell? ⟨wo.heap.size, 0, none⟩ = some (.slice pc x.1.length cc) := (hb8.cell (p := ⟨wo.heap.size, 0, none⟩) HHL.out).trans m0
          have q1 : w8.cell? ⟨wo.heap.size, 1, none⟩ = some (.slice pu x.2.length cu) := (hb8.cell (p := ⟨wo.heap.size, 1, none⟩) HHL.out).trans m1
          clear hs hb8 m0 m1
          go_wp2_with fail
          have hs := same7_any _ _ x.2 x.2 _ _ _ (HU7.out.kept (Kept.below HB8.out)) (HUE.out.kept (HK7.out.trans (Kept.below HB8.out))) HM.out HM.out
          rw [decide_eq_true (rfl : x.2 = x.2)] at hs
          refine hs.mono ?_
          rintro e w9 ⟨rfl, hb9⟩
          have HB9 := Lib.hid hb9
          clear hs hb9
          go_wp2_with fail
          go_roundw
          case rel => exact ⟨i + 1, by go_num, HLT.out, HB7.out.trans ((HB8.out.trans (HB9.out.mono HB8.out.size)).mono HB7.out.size), a + 1 + 1, by rw [HAA.out]; push_cast; omega, (HN7.out.below HB8.out).below HB9.out⟩
          case measure => (have hq := HLT.out; simp [intOf]; omega)
        · have hlt' : decide (i < es.length) = false := decide_eq_false hlt
          have HI2 : Hid (i = es.length) := (show i = es.length by have := HI.out; omega)
          clear hlt
          go_wp2_with fail
          refine (asked_any HNA.out).mono ?_
          rintro e w5 ⟨rfl, rfl⟩
          have HAE : Hid (a = 2 * (es.length : Int)) := by show _ = _; rw [HAA.out, HI2.out]
          go_wp2
          go_ret
          exact ⟨by rw [HAE.out]; simp, HBW.out⟩
end Go.Proofs.Ytcifoallahmjbaa
