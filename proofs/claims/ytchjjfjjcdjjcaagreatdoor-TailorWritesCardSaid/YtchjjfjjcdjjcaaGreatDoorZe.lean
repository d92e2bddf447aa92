/- Package tailor: which rules may be; the reference's word for it. -/
import Derived.Test.YtchjjfjjcdjjcaaGreatDoorZd
import Derived.Test.YtchjjfjjcdjjcaaGreatDoorGe
import Derived.Test.YtchjjfjjcdjjcaaGreatDoorGl
namespace Go.Proofs.YtchjjfjjcdjjcaaGreatDoor
open Go.RowKit

def badR (i : Nat) (x : Rul) : Bool := decide (x.1 < 0) || decide (4 < x.1) || (decide (i = 0) && decide (x.1 ≠ 0)) || decide (x.2.1.length = 0) || (decide (x.1 = 0) && decide (0 < x.2.2.length)) || !x.2.1.all sc || !x.2.2.all sc
/-- whether rules may be: the error's number -/
def mayT (l : List Rul) : Int := if (List.range l.length).any (fun i => match l[i]? with | some x => badR i x | none => false) = true then 100 else if 2000 < l.length then 2 else 0
theorem may_bad {l : List Rul} {i : Nat} {x : Rul} (hx : l[i]? = some x) (hb : badR i x = true) : mayT l = 100 := by
  unfold mayT
  rw [if_pos]
  rw [List.any_eq_true]
  exact ⟨i, List.mem_range.2 (List.getElem?_eq_some_iff.1 hx).1, by rw [hx]; exact hb⟩
theorem may_ok {l : List Rul} (h : ∀ i x, l[i]? = some x → badR i x = false) : mayT l = if 2000 < l.length then 2 else 0 := by
  unfold mayT
  rw [if_neg]
  intro ha
  obtain ⟨i, hi, hb⟩ := List.any_eq_true.1 ha
  cases hx : l[i]? with
  | none => rw [hx] at hb; cases hb
  | some x => rw [hx] at hb; simp only at hb; rw [h i x hx] at hb; cases hb
theorem RulsIn.at' {R : Nat → Prop} {w : World} {p : Option Addr} {len cap : Nat} {rs : List Rul} (h : RulsIn R w (.slice p len cap) rs) (i : Nat) (r : Rul) (hi : rs[i]? = some r) :
    ∃ b o t x, p = some ⟨b, o, none⟩ ∧ R b ∧ b < w.heap.size ∧ w.cell? ⟨b, o + i * 3, none⟩ = some (.int .i64 r.1) ∧ w.cell? ⟨b, o + i * 3 + 1, none⟩ = some t ∧ w.cell? ⟨b, o + i * 3 + 2, none⟩ = some x ∧ IntsIn R .i32 w t r.2.1 ∧ IntsIn R .i32 w x r.2.2 := by
  obtain ⟨p', cap', h1, h2⟩ := h
  cases h1
  exact h2 i r hi
set_option maxHeartbeats 8000000 in
set_option maxRecDepth 100000 in
theorem may_any (R : Nat → Prop) (l : List Rul) (v : Value) (w : World) (hv : RulsIn R w v l) (hl : l.length ≤ 140737488351232) :
    Calls Tryz.prog 17 #[v] w fun e w' => e = .returned (.int .i64 (mayT l)) ∧ Below w.heap.size w w' := by
  have HV := Lib.hid hv
  obtain ⟨p, cp, rfl, _⟩ := hv
  obtain ⟨n, hn⟩ : ∃ n, n = l.length := ⟨_, rfl⟩
  rw [← hn] at HV hl ⊢
  have HN := Lib.hid hn
  clear hn
  go_enter Tryz.func17, Tryz.ntmps17
  go_wp2_with fail
  go_loopw [8] (fun iv W => ∃ k : Nat, iv = .int .i64 k ∧ (k ≤ n ∧ ∀ j x, j < k → l[j]? = some x → badR j x = false) ∧ Below w.heap.size w W) (fun iv _ => n - (intOf iv).toNat)
  case atStart => exact ⟨0, rfl, ⟨Nat.zero_le _, fun j x hj => by omega⟩, Below.refl _ _⟩
  case round =>
    obtain ⟨k, rfl, ⟨hk, hall⟩, hbw⟩ := hrel
    have HBW := Lib.hid hbw
    have HALL := Lib.hid hall
    by_cases hlt : k < n
    · have g1 : (k : Int) < (n : Int) := by omega
      obtain ⟨⟨kd, tx, ex⟩, hr⟩ : ∃ r, l[k]? = some r := ⟨l[k]'(by rw [← HN.out]; exact hlt), List.getElem?_eq_getElem _⟩
      obtain ⟨ab, ao, tv, xv, rfl, _, abl, c0, c1, c2, hti, hxi⟩ := (HV.out.kept (Kept.below hbw)).at' k _ hr
      have HR100 : Hid (badR k (kd, tx, ex) = true → mayT l = 100) := fun h => may_bad hr h
      have HROK : Hid (badR k (kd, tx, ex) = false → ∀ j x, j < k + 1 → l[j]? = some x → badR j x = false) := fun h j x hj hx => by
        by_cases hjk : j = k
        · subst hjk; rw [hr] at hx; cases hx; exact h
        · exact HALL.out j x (by omega) hx
      have HST := Lib.hid (fun W (hb : Below wr.heap.size wr W) => maysc_any R tx tv W (hti.kept (Kept.below hb)))
      have HSX := Lib.hid (fun W (hb : Below wr.heap.size wr W) => maysc_any R ex xv W (hxi.kept (Kept.below hb)))
      have hsl : ∀ {R : Nat → Prop} {W v} {l : List Int}, IntsIn R .i32 W v l → ∃ p c, v = .slice p l.length c ∧ l.length ≤ maxLen := fun h => ⟨_, _, h.choose_spec.choose_spec.1, Nat.le_trans h.choose_spec.choose_spec.2.1.1 h.choose_spec.choose_spec.2.1.2⟩
      obtain ⟨tp, tc, rfl, htl⟩ := hsl hti
      obtain ⟨xp, xc, rfl, hxl⟩ := hsl hxi
      unfold maxLen at htl hxl
      simp only at c0 c1 c2 HST HSX htl hxl
      have HBAD : Hid (badR k (kd, tx, ex) = (decide (kd < 0) || decide (4 < kd) || (decide (k = 0) && decide (kd ≠ 0)) || decide (tx.length = 0) || (decide (kd = 0) && decide (0 < ex.length)) || !tx.all sc || !ex.all sc)) := rfl
      generalize badR k (kd, tx, ex) = bb at *
      generalize tx.all sc = tb at *
      generalize ex.all sc = eb at *
      generalize tx.length = tl at *
      generalize ex.length = el at *
      have hbx : Below wr.heap.size wr (wr.alloc (.cells #[.int .i64 kd, .slice tp tl tc, .slice xp el xc] 47)) := (Below.refl _ wr).alloc (Nat.le_refl _) _
      have HB2 : Hid (Below w.heap.size w (wr.alloc (.cells #[.int .i64 kd, .slice tp tl tc, .slice xp el xc] 47))) := HBW.out.trans (hbx.mono HBW.out.size)
      have HST2 := Lib.hid (HST.out _ hbx)
      have HSX2 := Lib.hid (HSX.out _ hbx)
      clear hr hti hxi hall hbw hlt hsl hbx HST HSX
      by_cases hz : kd = 0
      · by_cases h0 : k = 0
        · have f1 : ((k : Int) == 0) = true := by rw [beq_iff_eq]; omega
          have f2 : (kd == 0) = true := by rw [beq_iff_eq]; omega
          have f3 : (kd != 0) = false := by rw [bne, f2]; rfl
          have f4 : decide (kd < 0) = false := decide_eq_false (by omega)
          have f5 : decide (4 < kd) = false := decide_eq_false (by omega)
          by_cases ht : tl = 0
          · have f6 : ((tl : Int) == 0) = true := by rw [beq_iff_eq]; omega
            have HE := Lib.hid (HR100.out (by rw [HBAD.out]; simp; omega))
            clear HBAD HROK HR100 HST2 HSX2 hz h0 ht
            go_wp2_with fail
            go_ret
            exact ⟨by rw [HE.out]; rfl, HB2.out⟩
          · have f6 : ((tl : Int) == 0) = false := by rw [beq_eq_false_iff_ne]; omega
            by_cases hx : 0 < el
            · have f7 : decide ((0 : Int) < (el : Int)) = true := decide_eq_true (by omega)
              have f8 : decide (0 < el) = true := decide_eq_true hx
              have HE := Lib.hid (HR100.out (by rw [HBAD.out]; simp; omega))
              clear HBAD HROK HR100 HST2 HSX2 hz h0 ht
              go_wp2_with fail
              go_ret
              exact ⟨by rw [HE.out]; rfl, HB2.out⟩
            · have f7 : decide ((0 : Int) < (el : Int)) = false := decide_eq_false (by omega)
              have f8 : decide (0 < el) = false := decide_eq_false hx
              cases tb
              · have HE := Lib.hid (HR100.out (by rw [HBAD.out]; simp))
                clear HBAD HROK HR100 HSX2 hz h0 ht hx
                go_wp2_with fail
                refine HST2.out.mono ?_
                rintro e w1 ⟨rfl, rfl⟩
                clear HST2
                go_wp2_with fail
                go_ret
                exact ⟨by rw [HE.out]; rfl, HB2.out⟩
              · cases eb
                · have HE := Lib.hid (HR100.out (by rw [HBAD.out]; simp))
                  clear HBAD HROK HR100 hz h0 ht hx
                  go_wp2_with fail
                  refine HST2.out.mono ?_
                  rintro e w1 ⟨rfl, rfl⟩
                  clear HST2
                  go_wp2_with fail
                  refine HSX2.out.mono ?_
                  rintro e w1 ⟨rfl, rfl⟩
                  clear HSX2
                  go_wp2_with fail
                  go_ret
                  exact ⟨by rw [HE.out]; rfl, HB2.out⟩
                · have HE := Lib.hid (HROK.out (by rw [HBAD.out]; simp; omega))
                  clear HBAD HROK HR100 hz h0 ht hx
                  go_wp2_with fail
                  refine HST2.out.mono ?_
                  rintro e w1 ⟨rfl, rfl⟩
                  clear HST2
                  go_wp2_with fail
                  refine HSX2.out.mono ?_
                  rintro e w1 ⟨rfl, rfl⟩
                  clear HSX2
                  go_wp2_with fail
                  go_roundw
                  case rel => exact ⟨k + 1, by go_num, ⟨by omega, HE.out⟩, HB2.out⟩
                  case measure => (show n - ((k : Int) + 1).toNat < n - (k : Int).toNat; omega)
        · have f1 : ((k : Int) == 0) = false := by rw [beq_eq_false_iff_ne]; omega
          have f2 : (kd == 0) = true := by rw [beq_iff_eq]; omega
          have f3 : (kd != 0) = false := by rw [bne, f2]; rfl
          have f4 : decide (kd < 0) = false := decide_eq_false (by omega)
          have f5 : decide (4 < kd) = false := decide_eq_false (by omega)
          by_cases ht : tl = 0
          · have f6 : ((tl : Int) == 0) = true := by rw [beq_iff_eq]; omega
            have HE := Lib.hid (HR100.out (by rw [HBAD.out]; simp; omega))
            clear HBAD HROK HR100 HST2 HSX2 hz h0 ht
            go_wp2_with fail
            go_ret
            exact ⟨by rw [HE.out]; rfl, HB2.out⟩
          · have f6 : ((tl : Int) == 0) = false := by rw [beq_eq_false_iff_ne]; omega
            by_cases hx : 0 < el
            · have f7 : decide ((0 : Int) < (el : Int)) = true := decide_eq_true (by omega)
              have f8 : decide (0 < el) = true := decide_eq_true hx
              have HE := Lib.hid (HR100.out (by rw [HBAD.out]; simp; omega))
              clear HBAD HROK HR100 HST2 HSX2 hz h0 ht
              go_wp2_with fail
              go_ret
              exact ⟨by rw [HE.out]; rfl, HB2.out⟩
            · have f7 : decide ((0 : Int) < (el : Int)) = false := decide_eq_false (by omega)
              have f8 : decide (0 < el) = false := decide_eq_false hx
              cases tb
              · have HE := Lib.hid (HR100.out (by rw [HBAD.out]; simp))
                clear HBAD HROK HR100 HSX2 hz h0 ht hx
                go_wp2_with fail
                refine HST2.out.mono ?_
                rintro e w1 ⟨rfl, rfl⟩
                clear HST2
                go_wp2_with fail
                go_ret
                exact ⟨by rw [HE.out]; rfl, HB2.out⟩
              · cases eb
                · have HE := Lib.hid (HR100.out (by rw [HBAD.out]; simp))
                  clear HBAD HROK HR100 hz h0 ht hx
                  go_wp2_with fail
                  refine HST2.out.mono ?_
                  rintro e w1 ⟨rfl, rfl⟩
                  clear HST2
                  go_wp2_with fail
                  refine HSX2.out.mono ?_
                  rintro e w1 ⟨rfl, rfl⟩
                  clear HSX2
                  go_wp2_with fail
                  go_ret
                  exact ⟨by rw [HE.out]; rfl, HB2.out⟩
                · have HE := Lib.hid (HROK.out (by rw [HBAD.out]; simp; omega))
                  clear HBAD HROK HR100 hz h0 ht hx
                  go_wp2_with fail
                  refine HST2.out.mono ?_
                  rintro e w1 ⟨rfl, rfl⟩
                  clear HST2
                  go_wp2_with fail
                  refine HSX2.out.mono ?_
                  rintro e w1 ⟨rfl, rfl⟩
                  clear HSX2
                  go_wp2_with fail
                  go_roundw
                  case rel => exact ⟨k + 1, by go_num, ⟨by omega, HE.out⟩, HB2.out⟩
                  case measure => (show n - ((k : Int) + 1).toNat < n - (k : Int).toNat; omega)
      · by_cases h0 : k = 0
        · have f1 : ((k : Int) == 0) = true := by rw [beq_iff_eq]; omega
          have f2 : (kd == 0) = false := by rw [beq_eq_false_iff_ne]; omega
          have f3 : (kd != 0) = true := by rw [bne, f2]; rfl
          have HE := Lib.hid (HR100.out (by rw [HBAD.out]; simp; omega))
          clear HBAD HROK HR100 HST2 HSX2 hz h0
          go_wp2_with fail
          go_ret
          exact ⟨by rw [HE.out]; rfl, HB2.out⟩
        · have f1 : ((k : Int) == 0) = false := by rw [beq_eq_false_iff_ne]; omega
          have f2 : (kd == 0) = false := by rw [beq_eq_false_iff_ne]; omega
          have f3 : (kd != 0) = true := by rw [bne, f2]; rfl
          by_cases hm : kd < 0
          · have f4 : decide (kd < 0) = true := decide_eq_true hm
            have HE := Lib.hid (HR100.out (by rw [HBAD.out]; simp; omega))
            clear HBAD HROK HR100 HST2 HSX2 hz h0 hm
            go_wp2_with fail
            go_ret
            exact ⟨by rw [HE.out]; rfl, HB2.out⟩
          · have f4 : decide (kd < 0) = false := decide_eq_false hm
            by_cases hg : 4 < kd
            · have f5 : decide (4 < kd) = true := decide_eq_true hg
              have HE := Lib.hid (HR100.out (by rw [HBAD.out]; simp; omega))
              clear HBAD HROK HR100 HST2 HSX2 hz h0 hm hg
              go_wp2_with fail
              go_ret
              exact ⟨by rw [HE.out]; rfl, HB2.out⟩
            · have f5 : decide (4 < kd) = false := decide_eq_false hg
              by_cases ht : tl = 0
              · have f6 : ((tl : Int) == 0) = true := by rw [beq_iff_eq]; omega
                have HE := Lib.hid (HR100.out (by rw [HBAD.out]; simp; omega))
                clear HBAD HROK HR100 HST2 HSX2 hz h0 hm hg ht
                go_wp2_with fail
                go_ret
                exact ⟨by rw [HE.out]; rfl, HB2.out⟩
              · have f6 : ((tl : Int) == 0) = false := by rw [beq_eq_false_iff_ne]; omega
                cases tb
                · have HE := Lib.hid (HR100.out (by rw [HBAD.out]; simp))
                  clear HBAD HROK HR100 HSX2 hz h0 hm hg ht
                  go_wp2_with fail
                  refine HST2.out.mono ?_
                  rintro e w1 ⟨rfl, rfl⟩
                  clear HST2
                  go_wp2_with fail
                  go_ret
                  exact ⟨by rw [HE.out]; rfl, HB2.out⟩
                · cases eb
                  · have HE := Lib.hid (HR100.out (by rw [HBAD.out]; simp))
                    clear HBAD HROK HR100 hz h0 hm hg ht
                    go_wp2_with fail
                    refine HST2.out.mono ?_
                    rintro e w1 ⟨rfl, rfl⟩
                    clear HST2
                    go_wp2_with fail
                    refine HSX2.out.mono ?_
                    rintro e w1 ⟨rfl, rfl⟩
                    clear HSX2
                    go_wp2_with fail
                    go_ret
                    exact ⟨by rw [HE.out]; rfl, HB2.out⟩
                  · have HE := Lib.hid (HROK.out (by rw [HBAD.out]; simp; omega))
                    clear HBAD HROK HR100 hz h0 hm hg ht
                    go_wp2_with fail
                    refine HST2.out.mono ?_
                    rintro e w1 ⟨rfl, rfl⟩
                    clear HST2
                    go_wp2_with fail
                    refine HSX2.out.mono ?_
                    rintro e w1 ⟨rfl, rfl⟩
                    clear HSX2
                    go_wp2_with fail
                    go_roundw
                    case rel => exact ⟨k + 1, by go_num, ⟨by omega, HE.out⟩, HB2.out⟩
                    case measure => (show n - ((k : Int) + 1).toNat < n - (k : Int).toNat; omega)
    · obtain rfl : k = n := by omega
      have g1 : ¬ ((k : Int) < (k : Int)) := by omega
      have HE := Lib.hid (may_ok (l := l) (fun j x hx => HALL.out j x (by rw [HN.out]; exact (List.getElem?_eq_some_iff.1 hx).1) hx))
      rw [← HN.out] at HE
      clear hall hbw hlt
      by_cases h2 : 2000 < k
      · have d1 : decide ((2000 : Int) < (k : Int)) = true := decide_eq_true (by omega)
        have d2 : decide (2000 < k) = true := decide_eq_true h2
        rw [if_pos h2] at HE
        clear h2
        go_wp2_with fail
        go_ret
        exact ⟨by rw [HE.out]; rfl, HBW.out⟩
      · have d1 : decide ((2000 : Int) < (k : Int)) = false := decide_eq_false (by omega)
        have d2 : decide (2000 < k) = false := decide_eq_false h2
        rw [if_neg h2] at HE
        clear h2
        go_wp2_with fail
        go_ret
        exact ⟨by rw [HE.out]; rfl, HBW.out⟩
set_option maxHeartbeats 8000000 in
set_option maxRecDepth 100000 in
theorem rmay_any (R : Nat → Prop) (l : List Rul) (v : Value) (w : World) (hv : RulsIn R w v l) (hl : l.length ≤ 140737488351232) :
    Calls Tryz.prog 9 #[v] w fun e w' => e = .returned (.int .i64 (mayT l)) ∧ Below w.heap.size w w' := by
  have HV := Lib.hid hv
  obtain ⟨p, cp, rfl, _⟩ := hv
  obtain ⟨n, hn⟩ : ∃ n, n = l.length := ⟨_, rfl⟩
  rw [← hn] at HV hl ⊢
  have HN := Lib.hid hn
  clear hn
  go_enter Tryz.func9, Tryz.ntmps9
  go_wp2_with fail
  go_loopw [3] (fun iv W => ∃ k : Nat, iv = .int .i64 k ∧ (k ≤ n ∧ ∀ j x, j < k → l[j]? = some x → badR j x = false) ∧ Below w.heap.size w W) (fun iv _ => n - (intOf iv).toNat)
  case atStart => exact ⟨0, rfl, ⟨Nat.zero_le _, fun j x hj => by omega⟩, Below.refl _ _⟩
  case round =>
    obtain ⟨k, rfl, ⟨hk, hall⟩, hbw⟩ := hrel
    have HBW := Lib.hid hbw
    have HALL := Lib.hid hall
    by_cases hlt : k < n
    · have g1 : (k : Int) < (n : Int) := by omega
      obtain ⟨⟨kd, tx, ex⟩, hr⟩ : ∃ r, l[k]? = some r := ⟨l[k]'(by rw [← HN.out]; exact hlt), List.getElem?_eq_getElem _⟩
      obtain ⟨ab, ao, tv, xv, rfl, _, abl, c0, c1, c2, hti, hxi⟩ := (HV.out.kept (Kept.below hbw)).at' k _ hr
      have HR100 : Hid (badR k (kd, tx, ex) = true → mayT l = 100) := fun h => may_bad hr h
      have HROK : Hid (badR k (kd, tx, ex) = false → ∀ j x, j < k + 1 → l[j]? = some x → badR j x = false) := fun h j x hj hx => by
        by_cases hjk : j = k
        · subst hjk; rw [hr] at hx; cases hx; exact h
        · exact HALL.out j x (by omega) hx
      have HST := Lib.hid (fun W (hb : Below wr.heap.size wr W) => rscalars_any R tx tv W (hti.kept (Kept.below hb)))
      have HSX := Lib.hid (fun W (hb : Below wr.heap.size wr W) => rscalars_any R ex xv W (hxi.kept (Kept.below hb)))
      have hsl : ∀ {R : Nat → Prop} {W v} {l : List Int}, IntsIn R .i32 W v l → ∃ p c, v = .slice p l.length c ∧ l.length ≤ maxLen := fun h => ⟨_, _, h.choose_spec.choose_spec.1, Nat.le_trans h.choose_spec.choose_spec.2.1.1 h.choose_spec.choose_spec.2.1.2⟩
      obtain ⟨tp, tc, rfl, htl⟩ := hsl hti
      obtain ⟨xp, xc, rfl, hxl⟩ := hsl hxi
      unfold maxLen at htl hxl
      simp only at c0 c1 c2 HST HSX htl hxl
      have HBAD : Hid (badR k (kd, tx, ex) = (decide (kd < 0) || decide (4 < kd) || (decide (k = 0) && decide (kd ≠ 0)) || decide (tx.length = 0) || (decide (kd = 0) && decide (0 < ex.length)) || !tx.all sc || !ex.all sc)) := rfl
      generalize badR k (kd, tx, ex) = bb at *
      generalize tx.all sc = tb at *
      generalize ex.all sc = eb at *
      generalize tx.length = tl at *
      generalize ex.length = el at *
      have hbx : Below wr.heap.size wr (wr.alloc (.cells #[.int .i64 kd, .slice tp tl tc, .slice xp el xc] 47)) := (Below.refl _ wr).alloc (Nat.le_refl _) _
      have HB2 : Hid (Below w.heap.size w (wr.alloc (.cells #[.int .i64 kd, .slice tp tl tc, .slice xp el xc] 47))) := HBW.out.trans (hbx.mono HBW.out.size)
      have HST2 := Lib.hid (HST.out _ hbx)
      have HSX2 := Lib.hid (HSX.out _ hbx)
      clear hr hti hxi hall hbw hlt hsl hbx HST HSX
      by_cases hz : kd = 0
      · by_cases h0 : k = 0
        · have f1 : ((k : Int) == 0) = true := by rw [beq_iff_eq]; omega
          have f2 : (kd == 0) = true := by rw [beq_iff_eq]; omega
          have f3 : (kd != 0) = false := by rw [bne, f2]; rfl
          have f4 : decide (kd < 0) = false := decide_eq_false (by omega)
          have f5 : decide (4 < kd) = false := decide_eq_false (by omega)
          by_cases ht : tl = 0
          · have f6 : ((tl : Int) == 0) = true := by rw [beq_iff_eq]; omega
            have HE := Lib.hid (HR100.out (by rw [HBAD.out]; simp; omega))
            clear HBAD HROK HR100 HST2 HSX2 hz h0 ht
            go_wp2_with fail
            go_ret
            exact ⟨by rw [HE.out]; rfl, HB2.out⟩
          · have f6 : ((tl : Int) == 0) = false := by rw [beq_eq_false_iff_ne]; omega
            by_cases hx : 0 < el
            · have f7 : decide ((0 : Int) < (el : Int)) = true := decide_eq_true (by omega)
              have f8 : decide (0 < el) = true := decide_eq_true hx
              have HE := Lib.hid (HR100.out (by rw [HBAD.out]; simp; omega))
              clear HBAD HROK HR100 HST2 HSX2 hz h0 ht
              go_wp2_with fail
              go_ret
              exact ⟨by rw [HE.out]; rfl, HB2.out⟩
            · have f7 : decide ((0 : Int) < (el : Int)) = false := decide_eq_false (by omega)
              have f8 : decide (0 < el) = false := decide_eq_false hx
              cases tb
              · have HE := Lib.hid (HR100.out (by rw [HBAD.out]; simp))
                clear HBAD HROK HR100 HSX2 hz h0 ht hx
                go_wp2_with fail
                refine HST2.out.mono ?_
                rintro e w1 ⟨rfl, rfl⟩
                clear HST2
                go_wp2_with fail
                go_ret
                exact ⟨by rw [HE.out]; rfl, HB2.out⟩
              · cases eb
                · have HE := Lib.hid (HR100.out (by rw [HBAD.out]; simp))
                  clear HBAD HROK HR100 hz h0 ht hx
                  go_wp2_with fail
                  refine HST2.out.mono ?_
                  rintro e w1 ⟨rfl, rfl⟩
                  clear HST2
                  go_wp2_with fail
                  refine HSX2.out.mono ?_
                  rintro e w1 ⟨rfl, rfl⟩
                  clear HSX2
                  go_wp2_with fail
                  go_ret
                  exact ⟨by rw [HE.out]; rfl, HB2.out⟩
                · have HE := Lib.hid (HROK.out (by rw [HBAD.out]; simp; omega))
                  clear HBAD HROK HR100 hz h0 ht hx
                  go_wp2_with fail
                  refine HST2.out.mono ?_
                  rintro e w1 ⟨rfl, rfl⟩
                  clear HST2
                  go_wp2_with fail
                  refine HSX2.out.mono ?_
                  rintro e w1 ⟨rfl, rfl⟩
                  clear HSX2
                  go_wp2_with fail
                  go_roundw
                  case rel => exact ⟨k + 1, by go_num, ⟨by omega, HE.out⟩, HB2.out⟩
                  case measure => (show n - ((k : Int) + 1).toNat < n - (k : Int).toNat; omega)
        · have f1 : ((k : Int) == 0) = false := by rw [beq_eq_false_iff_ne]; omega
          have f2 : (kd == 0) = true := by rw [beq_iff_eq]; omega
          have f3 : (kd != 0) = false := by rw [bne, f2]; rfl
          have f4 : decide (kd < 0) = false := decide_eq_false (by omega)
          have f5 : decide (4 < kd) = false := decide_eq_false (by omega)
          by_cases ht : tl = 0
          · have f6 : ((tl : Int) == 0) = true := by rw [beq_iff_eq]; omega
            have HE := Lib.hid (HR100.out (by rw [HBAD.out]; simp; omega))
            clear HBAD HROK HR100 HST2 HSX2 hz h0 ht
            go_wp2_with fail
            go_ret
            exact ⟨by rw [HE.out]; rfl, HB2.out⟩
          · have f6 : ((tl : Int) == 0) = false := by rw [beq_eq_false_iff_ne]; omega
            by_cases hx : 0 < el
            · have f7 : decide ((0 : Int) < (el : Int)) = true := decide_eq_true (by omega)
              have f8 : decide (0 < el) = true := decide_eq_true hx
              have HE := Lib.hid (HR100.out (by rw [HBAD.out]; simp; omega))
              clear HBAD HROK HR100 HST2 HSX2 hz h0 ht
              go_wp2_with fail
              go_ret
              exact ⟨by rw [HE.out]; rfl, HB2.out⟩
            · have f7 : decide ((0 : Int) < (el : Int)) = false := decide_eq_false (by omega)
              have f8 : decide (0 < el) = false := decide_eq_false hx
              cases tb
              · have HE := Lib.hid (HR100.out (by rw [HBAD.out]; simp))
                clear HBAD HROK HR100 HSX2 hz h0 ht hx
                go_wp2_with fail
                refine HST2.out.mono ?_
                rintro e w1 ⟨rfl, rfl⟩
                clear HST2
                go_wp2_with fail
                go_ret
                exact ⟨by rw [HE.out]; rfl, HB2.out⟩
              · cases eb
                · have HE := Lib.hid (HR100.out (by rw [HBAD.out]; simp))
                  clear HBAD HROK HR100 hz h0 ht hx
                  go_wp2_with fail
                  refine HST2.out.mono ?_
                  rintro e w1 ⟨rfl, rfl⟩
                  clear HST2
                  go_wp2_with fail
                  refine HSX2.out.mono ?_
                  rintro e w1 ⟨rfl, rfl⟩
                  clear HSX2
                  go_wp2_with fail
                  go_ret
                  exact ⟨by rw [HE.out]; rfl, HB2.out⟩
                · have HE := Lib.hid (HROK.out (by rw [HBAD.out]; simp; omega))
                  clear HBAD HROK HR100 hz h0 ht hx
                  go_wp2_with fail
                  refine HST2.out.mono ?_
                  rintro e w1 ⟨rfl, rfl⟩
                  clear HST2
                  go_wp2_with fail
                  refine HSX2.out.mono ?_
                  rintro e w1 ⟨rfl, rfl⟩
                  clear HSX2
                  go_wp2_with fail
                  go_roundw
                  case rel => exact ⟨k + 1, by go_num, ⟨by omega, HE.out⟩, HB2.out⟩
                  case measure => (show n - ((k : Int) + 1).toNat < n - (k : Int).toNat; omega)
      · by_cases h0 : k = 0
        · have f1 : ((k : Int) == 0) = true := by rw [beq_iff_eq]; omega
          have f2 : (kd == 0) = false := by rw [beq_eq_false_iff_ne]; omega
          have f3 : (kd != 0) = true := by rw [bne, f2]; rfl
          by_cases hm : kd < 0
          · have f4 : decide (kd < 0) = true := decide_eq_true hm
            have HE := Lib.hid (HR100.out (by rw [HBAD.out]; simp; omega))
            clear HBAD HROK HR100 HST2 HSX2 hz h0 hm
            go_wp2_with fail
            go_ret
            exact ⟨by rw [HE.out]; rfl, HB2.out⟩
          · have f4 : decide (kd < 0) = false := decide_eq_false hm
            by_cases hg : 4 < kd
            · have f5 : decide (4 < kd) = true := decide_eq_true hg
              have HE := Lib.hid (HR100.out (by rw [HBAD.out]; simp; omega))
              clear HBAD HROK HR100 HST2 HSX2 hz h0 hm hg
              go_wp2_with fail
              go_ret
              exact ⟨by rw [HE.out]; rfl, HB2.out⟩
            · have f5 : decide (4 < kd) = false := decide_eq_false hg
              have HE := Lib.hid (HR100.out (by rw [HBAD.out]; simp; omega))
              clear HBAD HROK HR100 HST2 HSX2 hz h0 hm hg
              go_wp2_with fail
              go_ret
              exact ⟨by rw [HE.out]; rfl, HB2.out⟩
        · have f1 : ((k : Int) == 0) = false := by rw [beq_eq_false_iff_ne]; omega
          have f2 : (kd == 0) = false := by rw [beq_eq_false_iff_ne]; omega
          have f3 : (kd != 0) = true := by rw [bne, f2]; rfl
          by_cases hm : kd < 0
          · have f4 : decide (kd < 0) = true := decide_eq_true hm
            have HE := Lib.hid (HR100.out (by rw [HBAD.out]; simp; omega))
            clear HBAD HROK HR100 HST2 HSX2 hz h0 hm
            go_wp2_with fail
            go_ret
            exact ⟨by rw [HE.out]; rfl, HB2.out⟩
          · have f4 : decide (kd < 0) = false := decide_eq_false hm
            by_cases hg : 4 < kd
            · have f5 : decide (4 < kd) = true := decide_eq_true hg
              have HE := Lib.hid (HR100.out (by rw [HBAD.out]; simp; omega))
              clear HBAD HROK HR100 HST2 HSX2 hz h0 hm hg
              go_wp2_with fail
              go_ret
              exact ⟨by rw [HE.out]; rfl, HB2.out⟩
            · have f5 : decide (4 < kd) = false := decide_eq_false hg
              by_cases ht : tl = 0
              · have f6 : ((tl : Int) == 0) = true := by rw [beq_iff_eq]; omega
                have HE := Lib.hid (HR100.out (by rw [HBAD.out]; simp; omega))
                clear HBAD HROK HR100 HST2 HSX2 hz h0 hm hg ht
                go_wp2_with fail
                go_ret
                exact ⟨by rw [HE.out]; rfl, HB2.out⟩
              · have f6 : ((tl : Int) == 0) = false := by rw [beq_eq_false_iff_ne]; omega
                cases tb
                · have HE := Lib.hid (HR100.out (by rw [HBAD.out]; simp))
                  clear HBAD HROK HR100 HSX2 hz h0 hm hg ht
                  go_wp2_with fail
                  refine HST2.out.mono ?_
                  rintro e w1 ⟨rfl, rfl⟩
                  clear HST2
                  go_wp2_with fail
                  go_ret
                  exact ⟨by rw [HE.out]; rfl, HB2.out⟩
                · cases eb
                  · have HE := Lib.hid (HR100.out (by rw [HBAD.out]; simp))
                    clear HBAD HROK HR100 hz h0 hm hg ht
                    go_wp2_with fail
                    refine HST2.out.mono ?_
                    rintro e w1 ⟨rfl, rfl⟩
                    clear HST2
                    go_wp2_with fail
                    refine HSX2.out.mono ?_
                    rintro e w1 ⟨rfl, rfl⟩
                    clear HSX2
                    go_wp2_with fail
                    go_ret
                    exact ⟨by rw [HE.out]; rfl, HB2.out⟩
                  · have HE := Lib.hid (HROK.out (by rw [HBAD.out]; simp; omega))
                    clear HBAD HROK HR100 hz h0 hm hg ht
                    go_wp2_with fail
                    refine HST2.out.mono ?_
                    rintro e w1 ⟨rfl, rfl⟩
                    clear HST2
                    go_wp2_with fail
                    refine HSX2.out.mono ?_
                    rintro e w1 ⟨rfl, rfl⟩
                    clear HSX2
                    go_wp2_with fail
                    go_roundw
                    case rel => exact ⟨k + 1, by go_num, ⟨by omega, HE.out⟩, HB2.out⟩
                    case measure => (show n - ((k : Int) + 1).toNat < n - (k : Int).toNat; omega)
    · obtain rfl : k = n := by omega
      have g1 : ¬ ((k : Int) < (k : Int)) := by omega
      have HE := Lib.hid (may_ok (l := l) (fun j x hx => HALL.out j x (by rw [HN.out]; exact (List.getElem?_eq_some_iff.1 hx).1) hx))
      rw [← HN.out] at HE
      clear hall hbw hlt
      by_cases h2 : 2000 < k
      · have d1 : decide ((2000 : Int) < (k : Int)) = true := decide_eq_true (by omega)
        have d2 : decide (2000 < k) = true := decide_eq_true h2
        rw [if_pos h2] at HE
        clear h2
        go_wp2_with fail
        go_ret
        exact ⟨by rw [HE.out]; rfl, HBW.out⟩
      · have d1 : decide ((2000 : Int) < (k : Int)) = false := decide_eq_false (by omega)
        have d2 : decide (2000 < k) = false := decide_eq_false h2
        rw [if_neg h2] at HE
        clear h2
        go_wp2_with fail
        go_ret
        exact ⟨by rw [HE.out]; rfl, HBW.out⟩
end Go.Proofs.YtchjjfjjcdjjcaaGreatDoor
