/- Why an entry may not be: package trie's test. -/
import Derived.Test.YtcifoallahmjbaaTc
namespace Go.Proofs.Ytcifoallahmjbaa
open Go.RowKit

/-- an element may be -/
def okE (y : El) : Bool := chk y.1 y.2.1 y.2.2.1 y.2.2.2 == 0
def eErr (x : Ent) : Int :=
  if x.1.length < 1 ∨ 8 < x.1.length ∨ x.1.all pt = false then 90 else if 16 < x.2.length then 2 else if x.2.all okE = true then 0 else 70
theorem eErr_seq {x : Ent} (h : x.1.length < 1 ∨ 8 < x.1.length ∨ x.1.all pt = false) : eErr x = 90 := if_pos h
theorem eErr_long {x : Ent} (h : ¬ (x.1.length < 1 ∨ 8 < x.1.length ∨ x.1.all pt = false)) (h2 : 16 < x.2.length) : eErr x = 2 := by unfold eErr; rw [if_neg h, if_pos h2]
theorem eErr_ok {x : Ent} (h : ¬ (x.1.length < 1 ∨ 8 < x.1.length ∨ x.1.all pt = false)) (h2 : ¬ 16 < x.2.length) (h3 : ∀ y ∈ x.2, okE y = true) : eErr x = 0 := by
  unfold eErr; rw [if_neg h, if_neg h2, if_pos (List.all_eq_true.2 h3)]
theorem eErr_weight {x : Ent} (h : ¬ (x.1.length < 1 ∨ 8 < x.1.length ∨ x.1.all pt = false)) (h2 : ¬ 16 < x.2.length) {k : Nat} {y : El} (hk : x.2[k]? = some y) (h3 : okE y = false) : eErr x = 70 := by
  unfold eErr; rw [if_neg h, if_neg h2, if_neg]
  intro ha
  rw [List.all_eq_true] at ha
  rw [ha y (List.mem_of_getElem? hk)] at h3; cases h3
theorem eErr_zero {x : Ent} (h : eErr x = 0) : 1 ≤ x.1.length ∧ x.1.length ≤ 8 ∧ (∀ r ∈ x.1, pt r = true) ∧ x.2.length ≤ 16 ∧ (∀ y ∈ x.2, okE y = true) := by
  unfold eErr at h
  by_cases c : x.1.length < 1 ∨ 8 < x.1.length ∨ x.1.all pt = false
  · rw [if_pos c] at h; cases h
  · rw [if_neg c] at h
    by_cases c2 : 16 < x.2.length
    · rw [if_pos c2] at h; cases h
    · rw [if_neg c2] at h
      by_cases c3 : x.2.all okE = true
      · have hp : x.1.all pt = true := by
          cases hp : x.1.all pt
          · exact absurd (.inr (.inr hp)) c
          · rfl
        exact ⟨by omega, by omega, List.all_eq_true.1 hp, by omega, List.all_eq_true.1 c3⟩
      · rw [if_neg c3] at h; cases h
theorem take_all {xs : List El} {k : Nat} {y : El} (hk : xs[k]? = some y) (h : ∀ z ∈ xs.take k, okE z = true) (hy : okE y = true) : ∀ z ∈ xs.take (k + 1), okE z = true := by
  intro z hz
  rw [List.take_add_one, hk] at hz
  rcases List.mem_append.1 hz with hz | hz
  · exact h z hz
  · simp at hz; rw [hz]; exact hy

set_option maxHeartbeats 4000000 in
set_option maxRecDepth 100000 in
theorem may_any (R : Nat → Prop) (x : Ent) (c u : Value) (w : World) (hc : IntsIn R .i32 w c x.1) (hu : ElsIn R w u x.2) (h1 : x.1.length * 4 ≤ 140737488351232) (h2 : x.2.length * 32 ≤ 140737488351232) :
    Calls Try.prog 27 #[.agg #[c, u]] w fun e w' => e = .returned (.int .i64 (eErr x)) ∧ Below w.heap.size w w' := by
  have HC := Lib.hid hc
  have HU := Lib.hid hu
  obtain ⟨p, cp, rfl, _⟩ := hc
  obtain ⟨q, cq, rfl, _⟩ := hu
  have H1 := Lib.hid h1
  have H2 := Lib.hid h2
  have l1 : x.1.length ≤ 35184372087808 := by omega
  have l2 : x.2.length ≤ 4398046510976 := by omega
  clear h1 h2
  by_cases ha : x.1.length < 1
  · have HE := Lib.hid (eErr_seq (x := x) (.inl ha))
    have ha1 : decide ((x.1.length : Int) < 1) = true := decide_eq_true (by omega)
    have ha2 : decide (x.1.length < 1) = true := decide_eq_true ha
    have ha3 : x.1.length = 0 := by omega
    go_enter Try.func27, Try.ntmps27
    go_wp2
    go_ret
    exact ⟨by rw [HE.out]; rfl, (Below.refl _ _).alloc (Nat.le_refl _) _⟩
  have ha1 : decide ((x.1.length : Int) < 1) = false := decide_eq_false (by omega)
  have ha2 : decide (x.1.length < 1) = false := decide_eq_false ha
  by_cases hb : 8 < x.1.length
  · have HE := Lib.hid (eErr_seq (x := x) (.inr (.inl hb)))
    have hb1 : decide ((8 : Int) < (x.1.length : Int)) = true := decide_eq_true (by omega)
    have hb2 : decide (8 < x.1.length) = true := decide_eq_true hb
    clear ha hb
    go_enter Try.func27, Try.ntmps27
    go_wp2
    go_ret
    exact ⟨by rw [HE.out]; rfl, (Below.refl _ _).alloc (Nat.le_refl _) _⟩
  have hb1 : decide ((8 : Int) < (x.1.length : Int)) = false := decide_eq_false (by omega)
  have hb2 : decide (8 < x.1.length) = false := decide_eq_false hb
  cases hp : x.1.all pt
  · have HE := Lib.hid (eErr_seq (x := x) (.inr (.inr hp)))
    have hm : x.1.length ≤ maxLen := by unfold maxLen; omega
    have HM := Lib.hid hm
    have HA : Hid (x.1.all pt = false) := hp
    clear ha hb hm hp
    go_enter Try.func27, Try.ntmps27
    go_wp2_with fail
    refine (allp_any R x.1 _ _ (HC.out.kept (Kept.below ((Below.refl _ _).alloc (Nat.le_refl _) _))) HM.out).mono ?_
    rw [HA.out]
    rintro e w1 ⟨rfl, hb1'⟩
    go_wp2_with fail
    go_ret
    exact ⟨by rw [HE.out]; rfl, ((Below.refl _ _).alloc (Nat.le_refl _) _).trans (hb1'.mono (by simp))⟩
  · have hm : x.1.length ≤ maxLen := by unfold maxLen; omega
    have HM := Lib.hid hm
    have HA : Hid (x.1.all pt = true) := hp
    have HN : Hid (¬ (x.1.length < 1 ∨ 8 < x.1.length ∨ x.1.all pt = false)) := fun h => h.elim ha (fun h => h.elim hb (fun h => by rw [hp] at h; cases h))
    by_cases hl : 16 < x.2.length
    · have HE := Lib.hid (eErr_long HN.out hl)
      have hl1 : decide ((16 : Int) < (x.2.length : Int)) = true := decide_eq_true (by omega)
      have hl2 : decide (16 < x.2.length) = true := decide_eq_true hl
      clear ha hb hm hp hl
      go_enter Try.func27, Try.ntmps27
      go_wp2_with fail
      refine (allp_any R x.1 _ _ (HC.out.kept (Kept.below ((Below.refl _ _).alloc (Nat.le_refl _) _))) HM.out).mono ?_
      rw [HA.out]
      rintro e w1 ⟨rfl, hb1'⟩
      obtain ⟨bc, bf⟩ := bcell hb1'
      have HB := Lib.hid hb1'
      clear hb1'
      go_wp2_with fail
      go_ret
      exact ⟨by rw [HE.out]; rfl, ((Below.refl _ _).alloc (Nat.le_refl _) _).trans (HB.out.mono (by simp))⟩
    · have hl1 : decide ((16 : Int) < (x.2.length : Int)) = false := decide_eq_false (by omega)
      have hl2 : decide (16 < x.2.length) = false := decide_eq_false hl
      have HL := Lib.hid hl
      clear ha hb hm hp hl
      go_enter Try.func27, Try.ntmps27
      go_wp2_with fail
      refine (allp_any R x.1 _ _ (HC.out.kept (Kept.below ((Below.refl _ _).alloc (Nat.le_refl _) _))) HM.out).mono ?_
      rw [HA.out]
      rintro e w1 ⟨rfl, hb1'⟩
      have k1 : w1.cell? ⟨w.heap.size, 1, none⟩ = some (.slice q x.2.length cq) := by rw [hb1'.cell (p := ⟨w.heap.size, 1, none⟩) (by simp)]; simp [go_sem]
      have HB : Hid (Below w.heap.size w w1) := ((Below.refl _ _).alloc (Nat.le_refl _) _).trans (hb1'.mono (by simp))
      clear hb1'
      go_wp2
      go_loopw [28] (fun i wr => ∃ k : Nat, i = .int .i64 k ∧ (k ≤ x.2.length ∧ ∀ z ∈ x.2.take k, okE z = true) ∧ Below w1.heap.size w1 wr) (fun i _ => x.2.length - (intOf i).toNat)
      case atStart => exact ⟨0, rfl, ⟨Nat.zero_le _, by simp⟩, Below.refl _ _⟩
      case round =>
        obtain ⟨k, rfl, hr, hbr⟩ := hrel
        have HR := Lib.hid hr
        have HBR := Lib.hid hbr
        clear hr hbr
        by_cases hlt : k < x.2.length
        · have hlt' : decide (k < x.2.length) = true := decide_eq_true hlt
          obtain ⟨y, hy⟩ : ∃ y, x.2[k]? = some y := ⟨x.2[k], List.getElem?_eq_getElem hlt⟩
          obtain ⟨b', o, rfl, _, hbl, c0, c1, c2, c3⟩ := (HU.out.kept (Kept.below (HB.out.trans (HBR.out.mono HB.out.size)))).at k y hy
          have HY := Lib.hid hy
          have HLT := Lib.hid hlt
          obtain ⟨yp, ys, yt, yv⟩ := y
          simp only at c0 c1 c2 c3
          clear hy hlt
          cases hk : okE (yp, ys, yt, yv)
          · have HE := Lib.hid (eErr_weight HN.out HL.out HY.out hk)
            have hne : (chk yp ys yt yv != 0) = true := by have := hk; unfold okE at this; simp only at this; rw [bne, this]; rfl
            clear hk
            go_wp2_with fail
            refine (check_any _ _ _ _ _).mono ?_
            rintro e w2 ⟨rfl, hb2'⟩
            have HB2 := Lib.hid hb2'
            clear hb2'
            go_wp2_with fail
            go_ret
            exact ⟨by rw [HE.out]; rfl, (HB.out.trans (HBR.out.mono HB.out.size)).trans ((((Below.refl _ wr).alloc (Nat.le_refl _) _).trans (HB2.out.mono (by simp))).mono (Nat.le_trans HB.out.size HBR.out.size))⟩
          · have HT := Lib.hid (take_all HY.out HR.out.2 hk)
            have hne : (chk yp ys yt yv != 0) = false := by have := hk; unfold okE at this; simp only at this; rw [bne, this]; rfl
            clear hk
            go_wp2_with fail
            refine (check_any _ _ _ _ _).mono ?_
            rintro e w2 ⟨rfl, hb2'⟩
            have HB2 := Lib.hid hb2'
            clear hb2'
            go_wp2_with fail
            go_roundw
            case rel => exact ⟨k + 1, by go_num, ⟨HLT.out, HT.out⟩, HBR.out.trans ((((Below.refl _ wr).alloc (Nat.le_refl _) _).trans (HB2.out.mono (by simp))).mono HBR.out.size)⟩
            case measure => (have hq := HLT.out; simp [intOf]; omega)
        · have hlt' : decide (k < x.2.length) = false := decide_eq_false hlt
          have HE := Lib.hid (eErr_ok HN.out HL.out (by have := HR.out.2; rwa [List.take_of_length_le (by omega)] at this))
          clear hlt
          go_wp2_with fail
          go_ret
          exact ⟨by rw [HE.out]; rfl, HB.out.trans (HBR.out.mono HB.out.size)⟩
end Go.Proofs.Ytcifoallahmjbaa
