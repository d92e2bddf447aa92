/- The reference's test of entries: walked. Package valid: entries, forms: walked. -/
import Derived.Test.YtnglhgogkemgbaaGreatDoorG37
import Derived.Test.YtnglhgogkemgbaaGreatDoorG33
import Derived.Test.YtnglhgogkemgbaaGreatDoorG36
import Derived.Laws.MakeOwn
import Derived.Lib.Strings
namespace Go.Proofs.YtnglhgogkemgbaaGreatDoor
open Go.RowKit

theorem Tryz.infoS : (Tryz.prog.info? 9).map (fun i => (i.zero, i.size, i.bytes)) = some (some (.string ⟨#[]⟩), 1, 16) := by kernel_rfl
/-- a slice of runes is read as a string -/
theorem runes_string {R : Nat → Prop} {w : World} {v : Value} {xs : List Int} (h : IntsIn R .i32 w v xs) (hne : xs ≠ []) : (convert 42 9 v).run Tryz.prog w = .ok (.string (runesBytes xs)) w := by
  obtain ⟨p, cap, rfl, _, h2⟩ := h
  cases xs with
  | nil => exact absurd rfl hne
  | cons x xs =>
    obtain ⟨b, o, rfl, _, _, _⟩ := h2 0 x rfl
    rw [run_convert_runes_string w _ _ _ _ _ _ Tryz.underlying42 Tryz.underlying21 Tryz.underlying9]
    refine run_runesToString w _ _ _ _ ?_
    have := run_loadCells_list (P := Tryz.prog) (w := w) ⟨b, o, none⟩ ((x :: xs).map (Value.int .i32)) (fun j v hj => by
      rw [List.getElem?_map] at hj
      cases hx : (x :: xs)[j]? with
      | none => rw [hx] at hj; cases hj
      | some y =>
        rw [hx] at hj; cases hj
        obtain ⟨b', o', e, _, _, hc⟩ := h2 j y hx
        cases e
        rw [addr_add]; exact hc)
    rwa [List.length_map] at this
theorem toList_injV {a b : ByteArray} (h : a.toList = b.toList) : a = b := by
  rw [Lib.toList_data, Lib.toList_data] at h
  exact ByteArray.ext (Array.ext' h)
/-- what has been seen -/
def seenV (es : List Ent) : List Value := es.map fun x => Value.string (runesBytes x.1)
theorem seen_cell {w : World} {B : Nat} {v : Value} {es : List Ent} (h : w.ownsRow B 9 1 v es.length (seenV es)) {p : Option Addr} {n cap : Nat} (hv : v = .slice p n cap) {j : Nat} {y : Ent} (hj : es[j]? = some y) :
    ∃ g, p = some ⟨g, 0, none⟩ ∧ w.cell? ⟨g, j, none⟩ = some (.string (runesBytes y.1)) := by
  rcases h.2 with ⟨_, e⟩ | ⟨g, cap', cur, e, _⟩
  · have := (List.getElem?_eq_some_iff.1 hj).1; omega
  · rw [hv] at e; cases e
    refine ⟨g, rfl, ?_⟩
    have := h.cells (g := g) (by rw [hv]; rfl) j (.string (runesBytes y.1)) (by unfold seenV; rw [List.getElem?_map, hj]; rfl)
    rwa [addr_add, Nat.zero_add] at this
theorem make_seen (w : World) (n : Nat) (hn : n ≤ 4000) : ∃ sv W0, (Instr.makeSlice 82 (.int .i64 0) (.int .i64 n)).run Tryz.prog w = .ok sv W0 ∧ W0.ownsRow w.heap.size 9 1 sv 0 [] ∧ Below w.heap.size w W0 := by
  obtain ⟨i0, hi0, hz0, hz1, hz2⟩ := info_parts Tryz.infoS
  obtain ⟨w', h1, h2, h3⟩ := run_make_own (P := Tryz.prog) w w.heap.size 82 9 i0 (.string ⟨#[]⟩) 1 Tryz.underlying82 hi0 hz0 hz1 .i64 .i64 n (by rw [hz2]; omega) (by unfold maxLen; omega) (Nat.le_refl _)
  exact ⟨_, w', h1, h2, (Below.refl _ w).grown h3 (Nat.le_refl _) (fun k hk => by cases hk)⟩
theorem ck_err {es : List Ent} {i : Nat} {x : Ent} {z : Int} (hl : ¬ 4000 < es.length) (hx : es[i]? = some x) (h : ∀ j, j < i → badAt es j = 0) (he : eErr x = z) (hz : z ≠ 0) : ckA es = i ∧ ckE es = z := by
  subst he
  have hb := badAt_err hx hz
  have hf := fst_here (List.getElem?_eq_some_iff.1 hx).1 h (by rw [hb]; exact hz)
  unfold ckA ckE
  rw [if_neg hl, if_neg hl, hf]
  exact ⟨rfl, hb⟩
theorem ck_twin {es : List Ent} {i : Nat} {x : Ent} (hl : ¬ 4000 < es.length) (hx : es[i]? = some x) (h : ∀ j, j < i → badAt es j = 0) (he : eErr x = 0) {k : Nat} {y : Ent} (hy : (es.take i)[k]? = some y) (hk : y.1 = x.1) : ckA es = i ∧ ckE es = 91 := by
  obtain ⟨k', hk'⟩ := idx_isSome (List.mem_of_getElem? hy)
  rw [hk] at hk'
  have hb := badAt_twin hx he hk'
  have hf := fst_here (List.getElem?_eq_some_iff.1 hx).1 h (by rw [hb]; decide)
  unfold ckA ckE
  rw [if_neg hl, if_neg hl, hf]
  exact ⟨rfl, hb⟩
theorem idx_none_of {es : List Ent} {p : List Int} (h : ∀ y ∈ es, y.1 ≠ p) : idx es p = none := by
  unfold idx; rw [List.findIdx?_eq_none_iff]; intro x hx; simpa using h x hx
theorem take_pt {xs : List Int} {k : Nat} {y : Int} (hk : xs[k]? = some y) (h : ∀ z ∈ xs.take k, pt z = true) (hy : pt y = true) : ∀ z ∈ xs.take (k + 1), pt z = true := by
  intro z hz
  rw [List.take_add_one, hk] at hz
  rcases List.mem_append.1 hz with hz | hz
  · exact h z hz
  · simp at hz; rw [hz]; exact hy
theorem take_ne {es : List Ent} {p : List Int} {k : Nat} {y : Ent} (hk : es[k]? = some y) (h : ∀ z ∈ es.take k, z.1 ≠ p) (hy : y.1 ≠ p) : ∀ z ∈ es.take (k + 1), z.1 ≠ p := by
  intro z hz
  rw [List.take_add_one, hk] at hz
  rcases List.mem_append.1 hz with hz | hz
  · exact h z hz
  · simp at hz; rw [hz]; exact hy
theorem all_false {xs : List Int} {k : Nat} {y : Int} (hk : xs[k]? = some y) (hy : pt y = false) : xs.all pt = false := by
  cases h : xs.all pt
  · rfl
  · rw [List.all_eq_true] at h; rw [h y (List.mem_of_getElem? hk)] at hy; cases hy
def CkRel (es : List Ent) (w : World) (i : Nat) (sv : Value) (W : World) : Prop :=
  i ≤ es.length ∧ (∀ j, j < i → badAt es j = 0) ∧ W.ownsRow w.heap.size 9 1 sv i (seenV (es.take i)) ∧ Below w.heap.size w W
theorem tpt_bd {r : Int} (h : pt r = true) : (0 ≤ r ∧ r ≤ 1114111) ∧ (r < 55296 ∨ 57343 < r) := by
  unfold pt at h; simp at h; omega

set_option maxHeartbeats 8000000 in
set_option maxRecDepth 100000 in
theorem rCheck_any (R : Nat → Prop) (es : List Ent) (v : Value) (w : World) (hv : EntsIn R w v es) (hok : ∀ x ∈ es, EntOk x) (hl : es.length ≤ 140737488351232) :
    Calls Tryz.prog 25 #[v] w fun e w' => e = .returned (.tuple #[.int .i64 (ckA es), .int .i64 (ckE es)]) ∧ Below w.heap.size w w' := by
  have HV := Lib.hid hv
  obtain ⟨p, cp, rfl, _⟩ := hv
  have HOK := Lib.hid hok
  clear hok
  by_cases hbig : 4000 < es.length
  · have hb1 : decide ((4000 : Int) < (es.length : Int)) = true := decide_eq_true (by omega)
    have hb2 : decide (4000 < es.length) = true := decide_eq_true hbig
    have HE : Hid (ckA es = 0 ∧ ckE es = 2) := ⟨if_pos hbig, if_pos hbig⟩
    clear hbig
    go_enter Tryz.func25, Tryz.ntmps25
    go_wp2
    go_ret2
    exact ⟨by rw [HE.out.1, HE.out.2]; rfl, Below.refl _ _⟩
  · have hb1 : decide ((4000 : Int) < (es.length : Int)) = false := decide_eq_false (by omega)
    have hb2 : decide (4000 < es.length) = false := decide_eq_false hbig
    have HBIG := Lib.hid hbig
    have hl4 : es.length ≤ 4000 := by omega
    obtain ⟨i0, hi0, hz0, hz1, hz2⟩ := info_parts Tryz.infoS
    obtain ⟨sv0, W0, hmk, hown0, hb0⟩ := make_seen w es.length hl4
    have HO0 := Lib.hid hown0
    have HB0 := Lib.hid hb0
    have hsv0 : ∃ p c, sv0 = .slice p 0 c := (by rcases hown0.2 with ⟨e, _⟩ | ⟨g, cap, cur, e, _⟩ <;> exact ⟨_, _, e⟩)
    obtain ⟨ps0, cs0, rfl⟩ := hsv0
    clear hbig hl hown0 hb0
    go_enter Tryz.func25, Tryz.ntmps25
    go_wp2
    go_loopw [4, 22] (fun sv ix wr => ∃ i : Nat, ix = .int .i64 i ∧ CkRel es w i sv wr) (fun _ ix _ => es.length - (intOf ix).toNat)
    case atStart => exact ⟨0, rfl, Nat.zero_le _, fun j hj => by omega, HO0.out, HB0.out⟩
    case round =>
      obtain ⟨i, rfl, hr⟩ := hrel
      obtain ⟨wo, rfl⟩ : ∃ wo : World, wo = wr := ⟨_, rfl⟩
      have HR := Lib.hid hr
      clear hr
      have hsv : ∃ p n c, u4 = .slice p n c := (by rcases HR.out.2.2.1.2 with ⟨e, _⟩ | ⟨g, cap, cur, e, _⟩ <;> exact ⟨_, _, _, e⟩)
      obtain ⟨psv, nsv, csv, rfl⟩ := hsv
      have hns : nsv = i := (by rcases HR.out.2.2.1.2 with ⟨e, e2⟩ | ⟨g, cap, cur, e, _⟩ <;> cases e <;> first | rfl | exact e2.symm)
      subst hns
      by_cases hlt : nsv < es.length
      · have hlt' : decide (nsv < es.length) = true := decide_eq_true hlt
        obtain ⟨x, hx⟩ : ∃ x, es[nsv]? = some x := ⟨es[nsv], List.getElem?_eq_getElem hlt⟩
        obtain ⟨b, o, c, u, rfl, hbR, hbl, hd0, hd1, hci, hue⟩ := HV.out.at nsv x hx
        have hc0 : wo.cell? ⟨b, o + nsv * 2, none⟩ = some c := (HR.out.2.2.2.cell (p := ⟨b, o + nsv * 2, none⟩) hbl).trans hd0
        have hc1 : wo.cell? ⟨b, o + nsv * 2 + 1, none⟩ = some u := (HR.out.2.2.2.cell (p := ⟨b, o + nsv * 2 + 1, none⟩) hbl).trans hd1
        have HX := Lib.hid hx
        have HLT := Lib.hid hlt
        have HOX := Lib.hid (HOK.out x (List.mem_of_getElem? hx))
        have hx1 : x.1.length ≤ 35184372087808 := by have := HOX.out.1; omega
        have hx2 : x.2.length ≤ 4398046510976 := by have := HOX.out.2.1; omega
        have HCI := Lib.hid hci
        have HUE := Lib.hid hue
        obtain ⟨pc, cc, rfl, _⟩ := hci
        obtain ⟨pu, cu, rfl, _⟩ := hue
        clear hx hlt hd0 hd1
        have HBW : Hid (Below w.heap.size w (wo.alloc (.cells #[.slice pc x.1.length cc, .slice pu x.2.length cu] 45))) := HR.out.2.2.2.alloc HR.out.2.2.2.size _
        have hi4 : nsv < 4000 := by have := HLT.out; omega
        by_cases ha : x.1.length < 1
        · have HK := Lib.hid (ck_err HBIG.out HX.out HR.out.2.1 (eErr_seq (x := x) (.inl ha)) (by decide))
          have ha1 : decide ((x.1.length : Int) < 1) = true := decide_eq_true (by omega)
          have ha2 : decide (x.1.length < 1) = true := decide_eq_true ha
          have ha3 : x.1.length = 0 := by omega
          clear ha
          go_wp2
          go_ret2
          exact ⟨by rw [HK.out.1, HK.out.2]; rfl, by have := HBW.out; rwa [ha3] at this⟩
        have ha1 : decide ((x.1.length : Int) < 1) = false := decide_eq_false (by omega)
        have ha2 : decide (x.1.length < 1) = false := decide_eq_false ha
        by_cases hb : 8 < x.1.length
        · have HK := Lib.hid (ck_err HBIG.out HX.out HR.out.2.1 (eErr_seq (x := x) (.inr (.inl hb))) (by decide))
          have hb1 : decide ((8 : Int) < (x.1.length : Int)) = true := decide_eq_true (by omega)
          have hb2 : decide (8 < x.1.length) = true := decide_eq_true hb
          clear ha hb
          go_wp2
          go_ret2
          exact ⟨by rw [HK.out.1, HK.out.2]; rfl, HBW.out⟩
        have hb1 : decide ((8 : Int) < (x.1.length : Int)) = false := decide_eq_false (by omega)
        have hb2 : decide (8 < x.1.length) = false := decide_eq_false hb
        have HLEN : Hid (¬ x.1.length < 1 ∧ ¬ 8 < x.1.length) := ⟨ha, hb⟩
        clear ha hb
        go_wp2
        go_loopw [41] (fun kv wr => ∃ k : Nat, kv = .int .i64 k ∧ (k ≤ x.1.length ∧ ∀ r ∈ x.1.take k, pt r = true) ∧ Below (wo.heap.size + 1) (wo.alloc (.cells #[.slice pc x.1.length cc, .slice pu x.2.length cu] 45)) wr) (fun kv _ => x.1.length - (intOf kv).toNat)
        case atStart => exact ⟨0, rfl, ⟨Nat.zero_le _, by simp⟩, Below.refl _ _⟩
        case round =>
          obtain ⟨k, rfl, hr, hbr⟩ := hrel
          have HR1 := Lib.hid hr
          have HBR1 := Lib.hid hbr
          clear hr hbr
          have HW1 : Hid (Below w.heap.size w wr) := HBW.out.trans (HBR1.out.mono (by have := HR.out.2.2.2.size; omega))
          by_cases hlt : k < x.1.length
          · have hlt' : decide (k < x.1.length) = true := decide_eq_true hlt
            obtain ⟨b', o', rfl, _, _, hcr⟩ := (HCI.out.kept (Kept.below HW1.out)).at k hlt
            have hxk : x.1[k]? = some (x.1.getD k 0) := by rw [List.getD_eq_getElem?_getD, List.getElem?_eq_getElem hlt]; rfl
            obtain ⟨r, hre⟩ : ∃ r, r = x.1.getD k 0 := ⟨_, rfl⟩
            rw [← hre] at hcr hxk
            have HXK := Lib.hid hxk
            have HL := Lib.hid hlt
            clear hre hlt hxk
            cases hp : pt r
            · have HK := Lib.hid (ck_err HBIG.out HX.out HR.out.2.1 (eErr_seq (x := x) (.inr (.inr (all_false HXK.out hp)))) (by decide))
              go_wp2_with fail
              refine (scalar5_any _ _).mono ?_
              rw [hp]
              rintro e w2 ⟨rfl, rfl⟩
              go_wp2_with fail
              go_ret2
              exact ⟨by rw [HK.out.1, HK.out.2]; rfl, HW1.out⟩
            · have HT := Lib.hid (take_pt HXK.out HR1.out.2 hp)
              go_wp2_with fail
              refine (scalar5_any _ _).mono ?_
              rw [hp]
              rintro e w2 ⟨rfl, rfl⟩
              go_wp2_with fail
              go_roundw
              case rel => exact ⟨k + 1, by go_num, ⟨HL.out, HT.out⟩, HBR1.out⟩
              case measure => (have hq := HL.out; simp [intOf]; omega)
          · have hlt' : decide (k < x.1.length) = false := decide_eq_false hlt
            have HPT : Hid (∀ r ∈ x.1, pt r = true) := by have := HR1.out.2; rwa [List.take_of_length_le (by omega)] at this
            have k0 : wr.cell? ⟨wo.heap.size, 0, none⟩ = some (.slice pc x.1.length cc) := by rw [HBR1.out.cell (p := ⟨wo.heap.size, 0, none⟩) (by simp)]; simp [go_sem]
            have k1 : wr.cell? ⟨wo.heap.size, 1, none⟩ = some (.slice pu x.2.length cu) := by rw [HBR1.out.cell (p := ⟨wo.heap.size, 1, none⟩) (by simp)]; simp [go_sem]
            have HN : Hid (¬ (x.1.length < 1 ∨ 8 < x.1.length ∨ x.1.all pt = false)) := fun h => h.elim HLEN.out.1 (fun h => h.elim HLEN.out.2 (fun h => by rw [List.all_eq_true.2 HPT.out] at h; cases h))
            clear hlt
            obtain ⟨w1, rfl⟩ : ∃ w1 : World, w1 = wr := ⟨_, rfl⟩
            by_cases hl : 16 < x.2.length
            · have HK := Lib.hid (ck_err HBIG.out HX.out HR.out.2.1 (eErr_long (x := x) HN.out hl) (by decide))
              have hl1 : decide ((16 : Int) < (x.2.length : Int)) = true := decide_eq_true (by omega)
              have hl2 : decide (16 < x.2.length) = true := decide_eq_true hl
              clear hl
              go_wp2
              go_ret2
              exact ⟨by rw [HK.out.1, HK.out.2]; rfl, HW1.out⟩
            have hl1 : decide ((16 : Int) < (x.2.length : Int)) = false := decide_eq_false (by omega)
            have hl2 : decide (16 < x.2.length) = false := decide_eq_false hl
            have HL16 := Lib.hid hl
            clear hl
            go_wp2
            go_loopw [58] (fun kv wr => ∃ k : Nat, kv = .int .i64 k ∧ (k ≤ x.2.length ∧ ∀ z ∈ x.2.take k, okE z = true) ∧ Below w1.heap.size w1 wr) (fun kv _ => x.2.length - (intOf kv).toNat)
            case atStart => exact ⟨0, rfl, ⟨Nat.zero_le _, by simp⟩, Below.refl _ _⟩
            case round =>
              obtain ⟨k', rfl, hr, hbr⟩ := hrel
              have HR2 := Lib.hid hr
              have HBR2 := Lib.hid hbr
              clear hr hbr
              have HW2 : Hid (Below w.heap.size w wr) := HW1.out.trans (HBR2.out.mono HW1.out.size)
              by_cases hlt : k' < x.2.length
              · have hlt2' : decide (k' < x.2.length) = true := decide_eq_true hlt
                obtain ⟨y, hy⟩ : ∃ y, x.2[k']? = some y := ⟨x.2[k'], List.getElem?_eq_getElem hlt⟩
                obtain ⟨b', o', rfl, _, hbl', c0, c1, c2, c3⟩ := (HUE.out.kept (Kept.below HW2.out)).at k' y hy
                have HY := Lib.hid hy
                have HLT2 := Lib.hid hlt
                obtain ⟨yp, ys, yt, yv⟩ := y
                simp only at c0 c1 c2 c3
                clear hy hlt
                cases hk : okE (yp, ys, yt, yv)
                · have HK := Lib.hid (ck_err HBIG.out HX.out HR.out.2.1 (eErr_weight HN.out HL16.out HY.out hk) (by decide))
                  have hne : (chk yp ys yt yv != 0) = true := by have := hk; unfold okE at this; simp only at this; rw [bne, this]; rfl
                  clear hk
                  go_wp2_with fail
                  refine (wrcheck_any _ _ _ _ _).mono ?_
                  rintro e w2 ⟨rfl, hb2'⟩
                  have HB2 := Lib.hid hb2'
                  clear hb2'
                  go_wp2_with fail
                  go_ret2
                  exact ⟨by rw [HK.out.1, HK.out.2]; rfl, HW2.out.trans ((((Below.refl _ wr).alloc (Nat.le_refl _) _).trans (HB2.out.mono (by simp))).mono HW2.out.size)⟩
                · have HT := Lib.hid (take_all HY.out HR2.out.2 hk)
                  have hne : (chk yp ys yt yv != 0) = false := by have := hk; unfold okE at this; simp only at this; rw [bne, this]; rfl
                  clear hk
                  go_wp2_with fail
                  refine (wrcheck_any _ _ _ _ _).mono ?_
                  rintro e w2 ⟨rfl, hb2'⟩
                  have HB2 := Lib.hid hb2'
                  clear hb2'
                  go_wp2_with fail
                  go_roundw
                  case rel => exact ⟨k' + 1, by go_num, ⟨HLT2.out, HT.out⟩, HBR2.out.trans ((((Below.refl _ wr).alloc (Nat.le_refl _) _).trans (HB2.out.mono (by simp))).mono HBR2.out.size)⟩
                  case measure => (have hq := HLT2.out; simp [intOf]; omega)
              · have hlt2' : decide (k' < x.2.length) = false := decide_eq_false hlt
                have HE : Hid (eErr x = 0) := eErr_ok HN.out HL16.out (by have := HR2.out.2; rwa [List.take_of_length_le (by omega)] at this)
                clear hlt
                obtain ⟨w2, rfl⟩ : ∃ w2 : World, w2 = wr := ⟨_, rfl⟩
                have hb2l : wo.heap.size < w1.heap.size := by have := HBR1.out.size; simp at this; omega
                have m0 : w2.cell? ⟨wo.heap.size, 0, none⟩ = some (.slice pc x.1.length cc) := by rw [HBR2.out.cell (p := ⟨wo.heap.size, 0, none⟩) hb2l]; exact k0
                have hne : x.1 ≠ [] := by intro e; have := HLEN.out.1; rw [e] at this; simp at this
                have hcv := runes_string (HCI.out.kept (Kept.below HW2.out)) hne
                have HB2 : Hid (Below wo.heap.size wo w2) := ((Below.refl _ wo).alloc (Nat.le_refl _) _).trans ((HBR1.out.mono (Nat.le_succ _)).trans (HBR2.out.mono (by omega)))
                have HTK : Hid ((es.take nsv).length = nsv) := by show _ = _; rw [List.length_take]; have := HLT.out; omega
                have HROW : Hid (w2.ownsRow w.heap.size 9 1 (.slice psv nsv csv) nsv (seenV (es.take nsv))) := ownsRow_grow' HR.out.2.2.1 HB2.out
                have HPTS : Hid (∀ y ∈ es.take nsv, ∀ r ∈ y.1, pt r = true) := fun y hy r hr => by
                  obtain ⟨j, hj⟩ := List.getElem?_of_mem hy
                  have hj' : j < nsv := by have := (List.getElem?_eq_some_iff.1 hj).1; rw [HTK.out] at this; exact this
                  rw [List.getElem?_take_of_lt hj'] at hj
                  have hz := HR.out.2.1 j hj'
                  by_cases he : eErr y = 0
                  · exact (eErr_zero he).2.2.1 r hr
                  · rw [badAt_err hj he] at hz; exact absurd hz he
                clear hne k1
                go_wp2
                go_loopw [72] (fun kv wr => ∃ k : Nat, kv = .int .i64 k ∧ (k ≤ nsv ∧ ∀ z ∈ (es.take nsv).take k, z.1 ≠ x.1) ∧ Below w2.heap.size w2 wr) (fun kv _ => nsv - (intOf kv).toNat)
                case atStart => exact ⟨0, rfl, ⟨Nat.zero_le _, by simp⟩, Below.refl _ _⟩
                case round =>
                  obtain ⟨q, rfl, hr, hbr⟩ := hrel
                  have HR3 := Lib.hid hr
                  have HBR3 := Lib.hid hbr
                  clear hr hbr
                  have HW3 : Hid (Below w.heap.size w wr) := HW2.out.trans (HBR3.out.mono HW2.out.size)
                  have HROW3 := Lib.hid (ownsRow_grow' HROW.out HBR3.out)
                  by_cases hlt : q < nsv
                  · have hlt3' : decide (q < nsv) = true := decide_eq_true hlt
                    obtain ⟨y, hy⟩ : ∃ y, (es.take nsv)[q]? = some y := ⟨(es.take nsv)[q]'(by rw [HTK.out]; exact hlt), List.getElem?_eq_getElem _⟩
                    have hsc := seen_cell (B := w.heap.size) (es := es.take nsv) (w := wr) (v := .slice psv nsv csv) (by have := HROW3.out; rw [HTK.out]; exact this) rfl hy
                    obtain ⟨g, rfl, hcell⟩ := hsc
                    have HY := Lib.hid hy
                    have HLT3 := Lib.hid hlt
                    clear hy hlt
                    by_cases hyx : y.1 = x.1
                    · have HK := Lib.hid (ck_twin HBIG.out HX.out HR.out.2.1 HE.out HY.out hyx)
                      have hyb : runesBytes y.1 = runesBytes x.1 := by rw [hyx]
                      rw [hyb] at hcell
                      have heq : ((runesBytes x.1).toList == (runesBytes x.1).toList) = true := beq_self_eq_true _
                      clear hyx hyb
                      go_wp2
                      go_ret2
                      exact ⟨by rw [HK.out.1, HK.out.2]; rfl, HW3.out⟩
                    · have HT := Lib.hid (take_ne HY.out HR3.out.2 hyx)
                      have HYB : Hid (runesBytes x.1 ≠ runesBytes y.1) := fun e => hyx (runes_inj (fun r hr => tpt_bd (HPTS.out y (List.mem_of_getElem? HY.out) r hr)) (fun r hr => tpt_bd (HPT.out r hr)) e.symm)
                      clear hyx
                      generalize runesBytes y.1 = sy at *
                      generalize runesBytes x.1 = sx at *
                      have heq : (sx.toList == sy.toList) = false := beq_eq_false_iff_ne.2 (fun e => HYB.out (toList_injV e))
                      go_wp2
                      go_roundw
                      case rel => exact ⟨q + 1, by go_num, ⟨HLT3.out, HT.out⟩, HBR3.out⟩
                      case measure => (have hq := HLT3.out; simp [intOf]; omega)
                  · have hlt3' : decide (q < nsv) = false := decide_eq_false hlt
                    have HIX : Hid (badAt es nsv = 0) := badAt_ok HX.out HE.out (idx_none_of (by have := HR3.out.2; rwa [List.take_of_length_le (by rw [HTK.out]; omega)] at this))
                    clear hlt
                    obtain ⟨w3, rfl⟩ : ∃ w3 : World, w3 = wr := ⟨_, rfl⟩
                    have hrow3 := HROW3.out
                    go_wp2_with (at_builtin; refine wpList_append_own _ rfl _ _ 82 rfl w.heap.size 9 i0 (.string ⟨#[]⟩) 1 16 Tryz.underlying82 hi0 hz0 hz1 hz2 rfl (by decide) _ _ _ rfl (HROW3.out.alloc _) ⟨w3.heap.size, 0, none⟩ 1 1 [.string (runesBytes x.1)] rfl (by rfl) (cells_new _ _ _) (by simp [Value.oneCell']) (by unfold maxLen; omega) (by omega) (by have := HW3.out.size; simp; omega) ?_; intro v' w4 hown' hgrow _)
                    go_roundw
                    case rel =>
                      refine ⟨nsv + 1, by go_num, HLT.out, fun j' hj' => ?_, ?_, ?_⟩
                      · by_cases e : j' = nsv
                        · rw [e]; exact HIX.out
                        · exact HR.out.2.1 j' (by omega)
                      · rw [take_snocE HX.out]; unfold seenV; rw [List.map_append]; exact hown'
                      · exact (HW3.out.alloc HW3.out.size _).grown hgrow (by have := HW3.out.size; simp; omega) (fun k hk => (HROW3.out.lt k hk).1)
                    case measure => (have hq := HLT.out; simp [intOf]; omega)
      · have hlt' : decide (nsv < es.length) = false := decide_eq_false hlt
        have HI : Hid (nsv = es.length) := (show nsv = es.length by have := HR.out.1; omega)
        have HCK : Hid (ckA es = 0 ∧ ckE es = 0) := by
          have hn := fst_none (es := es) (fun j hj => HR.out.2.1 j (by have := HI.out; omega))
          refine ⟨?_, ?_⟩
          · unfold ckA; rw [if_neg HBIG.out, hn]
          · unfold ckE; rw [if_neg HBIG.out, hn]
        clear hlt
        go_wp2
        go_ret2
        exact ⟨by rw [HCK.out.1, HCK.out.2]; rfl, HR.out.2.2.2⟩
end Go.Proofs.YtnglhgogkemgbaaGreatDoor
namespace Go.Proofs.YtnglhgogkemgbaaGreatDoor
open Go.RowKit

theorem ck_zero {es : List Ent} (h : ckE es = 0) : es.length ≤ 4000 ∧ (∀ x ∈ es, eErr x = 0) ∧ ckA es = 0 := by
  by_cases hb : 4000 < es.length
  · unfold ckE at h; rw [if_pos hb] at h; cases h
  · unfold ckE at h; rw [if_neg hb] at h
    have hf : fstBad es = none := by
      cases hf : fstBad es with
      | none => rfl
      | some i =>
        rw [hf] at h
        have := List.find?_some hf
        simp at this; simp at h; exact absurd h this
    have hall := fst_none_all hf
    have herr : ∀ i x, es[i]? = some x → eErr x = 0 := fun i x hx => by
      by_cases he : eErr x = 0
      · exact he
      · have := hall i (List.getElem?_eq_some_iff.1 hx).1
        rw [badAt_err hx he] at this; exact absurd this he
    refine ⟨by omega, fun x hx => ?_, ?_⟩
    · obtain ⟨i, hi⟩ := List.getElem?_of_mem hx
      exact herr i x hi
    · unfold ckA; rw [if_neg hb, hf]
theorem onlyW {S T : Nat → Prop} {a b : World} (h : Only S a b) (hs : ∀ k, S k → T k) : Only T a b := ⟨h.os, h.tape, h.output, h.size, fun k hk hn => h.block k hk (fun e => hn (hs k e))⟩
section
variable {B : Nat} {W W' : World} {tb root n : Nat} {es fs : List Ent} {S : List (List Int)} {N : NMap} {lv : Value} {asked : Int} {vs : List (Value × Value)}
theorem NewAt.onlyLow {T : Nat → Prop} (h : NewAt B W tb es fs S N root lv n asked vs) (ho : Only T W W') (hT : ∀ k, T k → k < B) : NewAt B W' tb es fs S N root lv n asked vs := by
  have hk : ∀ k, k < W.heap.size → B ≤ k → W'.heap[k]? = W.heap[k]? := fun k h1 h2 => ho.block k h1 (fun e => by have := hT k e; omega)
  refine h.same ho.size (hk _ h.tlt h.tB) (fun p nb mb hp => ⟨hk _ (h.mem.ltN hp) (h.mem.ge p nb mb hp).1, hk _ (h.mem.ltM hp) (h.mem.ge p nb mb hp).2⟩) ?_ (fun b hb => ?_)
  · obtain ⟨g1, g2⟩ := h.row
    refine ⟨g1, g2.imp id ?_⟩
    rintro ⟨g, cap, cur, e1, e2, e3, e4⟩
    exact ⟨g, cap, cur, e1, e2, (hk g (Array.getElem?_eq_some_iff.1 e3).1 e2).trans e3, e4⟩
  · obtain ⟨h1, c, t, h3, _⟩ := hb; exact hk b (Array.getElem?_eq_some_iff.1 h3).1 h1
end
/-- how entries ends -/
def EntrEnd (es : List Ent) (wb : Nat) (nv : Value) (ver : ByteArray) (rv ev : Value) (w : World) (e : Ending) (w' : World) : Prop :=
  Only (fun k => k = wb) w w' ∧ ((ckE es = 0 ∧ e = .returned (.tuple #[]) ∧ ∃ tb N root lv n vs, WkAt w' wb nv ver rv ev (.pointer (some ⟨tb, 0, none⟩)) ∧ NewAt w.heap.size w' tb es es (es.map (·.1)) N root lv n 0 vs) ∨
    (ckE es ≠ 0 ∧ e = .panicked (chainV (ckA es) (ckE es))))
theorem WkAt.put {W : World} {wb : Nat} {n : Value} {ver : ByteArray} {rv ev t : Value} (h : WkAt W wb n ver rv ev t) (t' : Value) : WkAt (W.setCell ⟨wb, 4, none⟩ t') wb n ver rv ev t' := by
  unfold WkAt at *
  unfold World.setCell
  simp [Array.getElem?_modify, h]
set_option maxHeartbeats 2000000 in
set_option maxRecDepth 100000 in
theorem ventries_any (es : List Ent) (wb : Nat) (nv : Value) (ver : ByteArray) (rv ev t : Value) (w : World) (h : WkAt w wb nv ver rv ev t) (hv : EntsIn (· < w.heap.size) w ev es) (hok : ∀ x ∈ es, EntOk x) (hlen : es.length ≤ 140737488351232) :
    Calls Tryz.prog 19 #[.pointer (some ⟨wb, 0, none⟩)] w (EntrEnd es wb nv ver rv ev w) := by
  have HR := Lib.hid (new_any es ev w hv hok hlen)
  obtain ⟨c0, c1, c2, c3, c4, _, cl⟩ := h.cells
  have HW := Lib.hid h
  clear h hv hok hlen
  go_enter Tryz.func19, Tryz.ntmps19
  go_wp2_with fail
  with_reducible refine HR.out.mono ?_
  rintro e w1 ⟨hb1, ⟨hz, tb, N, root, lv, n, vs, rfl, hn⟩ | ⟨hz, rfl⟩⟩
  · have HB1 := Lib.hid hb1
    have HZ := Lib.hid hz
    have HN := Lib.hid hn
    have HW1 := Lib.hid (HW.out.below hb1)
    clear hb1 hz hn
    go_wp2_with fail
    with_reducible refine (vmust_ok 0 _).mono ?_
    rintro e w' ⟨rfl, rfl⟩
    obtain ⟨d0, d1, d2, d3, d4, df, dl⟩ := HW1.out.cells
    have df4 := df 4
    clear df
    go_wp2_with fail
    go_end0
    exact ⟨((Only.refl (fun k => k = wb) w).below HB1.out).setCell (p := ⟨wb, 4, none⟩) rfl _, .inl ⟨HZ.out, rfl, tb, N, root, lv, n, vs, HW1.out.put _, HN.out.onlyLow ((Only.refl (fun k => k = wb) w1).setCell (p := ⟨wb, 4, none⟩) rfl _) (fun k hk => by subst hk; exact cl)⟩⟩
  · have HB1 := Lib.hid hb1
    have HZ := Lib.hid hz
    have HE : Hid (∀ a z, ckA es = a → ckE es = z → EntrEnd es wb nv ver rv ev w (.panicked (chainV a z)) w1) := by
      show ∀ a z, _
      rintro a z rfl rfl
      exact ⟨(Only.refl (fun k => k = wb) w).below HB1.out, .inr ⟨HZ.out, rfl⟩⟩
    have HE2 := Lib.hid (HE.out _ _ rfl rfl)
    generalize ckA es = a at HE2 ⊢
    generalize ckE es = z at HE2 HZ ⊢
    clear hb1 hz HE HB1
    go_wp2_with fail
    with_reducible refine (vmust_no a z HZ.out _).mono ?_
    rintro e w' ⟨rfl, rfl⟩
    go_wp2_with fail
    exact ⟨rfl, HE2.out⟩
end Go.Proofs.YtnglhgogkemgbaaGreatDoor
