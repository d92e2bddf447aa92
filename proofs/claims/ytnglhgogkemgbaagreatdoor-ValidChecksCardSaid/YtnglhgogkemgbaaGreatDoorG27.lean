/- slices.SortStableFunc at []rune: symMerge, its step. slices.SortStableFunc at []rune: symMerge, whole. -/
import Derived.Test.YtnglhgogkemgbaaGreatDoorG26
import Derived.Test.YtnglhgogkemgbaaGreatDoorG25
/-! slices.SortStableFunc at []rune: symMerge, its step. -/
namespace Go.Proofs.YtnglhgogkemgbaaGreatDoor
open Go.RowKit

theorem srt_nil_left {f : Int → Int} {A B : List Int} (hA : Srt f A) (hB : Srt f B) (h : A = [] ∨ B = []) : Srt f (A ++ B) := by
  rcases h with rfl | rfl
  · simpa using hB
  · simpa using hA
theorem three_ways (A B : List Int) : (0 < A.length ∧ 0 < B.length) ∨ (0 < A.length ∧ B = []) ∨ A = [] := by
  cases A with
  | nil => exact .inr (.inr rfl)
  | cons _ _ =>
    cases B with
    | nil => exact .inr (.inl ⟨by simp, rfl⟩)
    | cons _ _ => exact .inl ⟨by simp, by simp⟩
/-- where the search has come to an end: both parts, parted -/
theorem sym_split {f : Int → Int} {P A B Q : List Int} {a m b mid n s e s0 r0 len : Nat} (hln : P.length = a ∧ a + A.length = m ∧ m + B.length = b ∧ P.length + (A.length + (B.length + Q.length)) = len) (hn : mid = (a + b) / 2 ∧ n = mid + m) (he : e = n - s)
    (hk : a ≤ s0 ∧ s0 ≤ r0 ∧ r0 ≤ m ∧ r0 ≤ mid ∧ n ≤ s0 + b ∧ (s0 = a ∨ s0 + b = n) ∧ (r0 = m ∨ r0 = mid)) (hs : s0 ≤ s) (hr : s ≤ r0)
    (hlo : s0 < s → ∀ x y, (P ++ (A ++ (B ++ Q)))[s - 1]? = some x → (P ++ (A ++ (B ++ Q)))[n - s]? = some y → f x ≤ f y)
    (hhi : s < r0 → ∀ x y, (P ++ (A ++ (B ++ Q)))[s]? = some x → (P ++ (A ++ (B ++ Q)))[n - 1 - s]? = some y → f y < f x) :
    ∃ A1 A2 B1 B2 : List Int, A = A1 ++ A2 ∧ B = B1 ++ B2 ∧ a + A1.length = s ∧ s + A2.length = m ∧ m + B1.length = e ∧ e + B2.length = b ∧
      (∀ x y, A2.head? = some x → B1.getLast? = some y → f y < f x) ∧ (∀ x y, A1.getLast? = some x → B2.head? = some y → f x ≤ f y) := by
  obtain ⟨l1, l2, l3, l4⟩ := hln
  obtain ⟨k1, k2, k3, k4, k5, k6, k7⟩ := hk
  have inA : ∀ i x, A[i]? = some x → (P ++ (A ++ (B ++ Q)))[a + i]? = some x := fun i x hx => by
    have := (List.getElem?_eq_some_iff.1 hx).1
    rw [List.getElem?_append_right (by omega), List.getElem?_append_left (by omega), show a + i - P.length = i from by omega]; exact hx
  have inB : ∀ i x, B[i]? = some x → (P ++ (A ++ (B ++ Q)))[m + i]? = some x := fun i x hx => by
    have := (List.getElem?_eq_some_iff.1 hx).1
    rw [List.getElem?_append_right (by omega), List.getElem?_append_right (by omega), List.getElem?_append_left (by omega), show m + i - P.length - A.length = i from by omega]; exact hx
  refine ⟨A.take (s - a), A.drop (s - a), B.take (e - m), B.drop (e - m), (List.take_append_drop _ _).symm, (List.take_append_drop _ _).symm, ?_, ?_, ?_, ?_, fun x y hx hy => ?_, fun x y hx hy => ?_⟩
  · rw [List.length_take]; omega
  · rw [List.length_drop]; omega
  · rw [List.length_take]; omega
  · rw [List.length_drop]; omega
  · have h1 := head_drop hx
    obtain ⟨h2, h3⟩ := last_take hy (by omega)
    have e1 := inA _ _ h1
    have e2 := inB _ _ h3
    have := (List.getElem?_eq_some_iff.1 h1).1
    rw [show a + (s - a) = s from by omega] at e1
    rw [show m + (e - m - 1) = n - 1 - s from by omega] at e2
    exact hhi (by omega) x y e1 e2
  · obtain ⟨h2, h3⟩ := last_take hx (by omega)
    have h1 := head_drop hy
    have e1 := inA _ _ h3
    have e2 := inB _ _ h1
    have := (List.getElem?_eq_some_iff.1 h1).1
    rw [show a + (s - a - 1) = s - 1 from by omega] at e1
    rw [show m + (e - m) = n - s from by omega] at e2
    exact hlo (by omega) x y e1 e2
set_option maxHeartbeats 16000000 in
set_option maxRecDepth 1000000 in
theorem symStep_any (f : Int → Int) (J : World → Prop) (nb g off cap a m b : Nat) (P A B Q : List Int) (w : World) (hC : CmpBy f g nb J) (len : Nat) (hl : len ≤ 1000000000) (ih : SymBelow f J nb g off cap len (A.length + B.length))
    (hA0 : 1 < A.length) (hB0 : 1 < B.length) (hA : Srt f A) (hB : Srt f B) (hs : SeqAt w g off (P ++ (A ++ (B ++ Q)))) (hj : J w) (ha : P.length = a) (hm : a + A.length = m) (hb : m + B.length = b) (hlen : P.length + (A.length + (B.length + Q.length)) = len) :
    Calls Tryz.prog 204 #[.slice (some ⟨g, off, none⟩) len cap, .int .i64 a, .int .i64 m, .int .i64 b, .func (.func 185) #[] #[.pointer (some ⟨nb, 0, none⟩)]] w fun e w' =>
      e = .returned (.tuple #[]) ∧ (∃ M, Stab f (A ++ B) M ∧ SeqAt w' g off (P ++ (M ++ Q))) ∧ Frm g off len w w' := by
  have HS := Lib.hid hs
  have HJ := Lib.hid hj
  have HC := Lib.hid hC
  have HIH := Lib.hid ih
  have HSA := Lib.hid hA
  have HSB := Lib.hid hB
  obtain ⟨mid, hmid⟩ : ∃ mid, mid = (a + b) / 2 := ⟨_, rfl⟩
  obtain ⟨n, hn⟩ : ∃ n, n = mid + m := ⟨_, rfl⟩
  have q1 : ¬ ((m : Int) - (a : Int) = 1) := by omega
  have q2 : ¬ ((b : Int) - (m : Int) = 1) := by omega
  have q1b : ((m : Int) - (a : Int) == 1) = false := by simpa using q1
  have q2b : ((b : Int) - (m : Int) == 1) = false := by simpa using q2
  have q3 : ((a : Int) + (b : Int)) / 2 = (mid : Int) := by omega
  have q4 : (mid : Int) + (m : Int) = (n : Int) := by omega
  have hbl : b ≤ len := by omega
  have hmb : m < b := by omega
  have ham : a < m := by omega
  have HLN := Lib.hid (And.intro ha (And.intro hm (And.intro hb hlen)))
  have HN := Lib.hid (And.intro hmid hn)
  -- where the search begins and ends
  have key : ∃ s0 r0 : Nat, a ≤ s0 ∧ s0 ≤ r0 ∧ r0 ≤ m ∧ r0 ≤ mid ∧ n ≤ s0 + b ∧ (s0 = a ∨ s0 + b = n) ∧ (r0 = m ∨ r0 = mid) ∧ ((mid < m ∧ s0 + b = n ∧ mid = r0) ∨ (m ≤ mid ∧ a = s0 ∧ m = r0)) := by
    rcases Nat.lt_or_ge mid m with h | h
    · exact ⟨n - b, mid, by omega, by omega, by omega, by omega, by omega, .inr (by omega), .inr rfl, .inl ⟨h, by omega, rfl⟩⟩
    · exact ⟨a, m, by omega, by omega, by omega, by omega, by omega, .inl rfl, .inl rfl, .inr ⟨h, rfl, rfl⟩⟩
  obtain ⟨s0, r0, k1, k2, k3, k4, k5, k6, k7, k8⟩ := key
  have HK := Lib.hid (And.intro k1 (And.intro k2 (And.intro k3 (And.intro k4 (And.intro k5 (And.intro k6 k7))))))
  have hnl : n ≤ 2000000000 := by omega
  have hmn : m < n := by omega
  clear hs hj hC ih hA hB hA0 hB0 ha hm hb hlen hmid hn k1 k2 k3 k4 k5 k6 k7
  have hp1 : (n : Int) - 1 = ((n - 1 : Nat) : Int) := by omega
  obtain ⟨p, hp⟩ : ∃ p, p = n - 1 := ⟨_, rfl⟩
  have hp2 : (n : Int) - 1 = (p : Int) := by omega
  have HP := Lib.hid hp
  clear hp hp1
  rcases k8 with ⟨x1, x2, x3⟩ | ⟨x1, x2, x3⟩
  rotate_left
  · have g1 : ¬ ((mid : Int) < (m : Int)) := by omega
    subst x2
    subst x3
    clear x1
    go_enter Tryz.func204, Tryz.ntmps204
    go_wp2_with fail
    go_loopw [20, 21, 23] (fun sv rv _ wr => ∃ (s r : Nat), sv = .int .i64 s ∧ rv = .int .i64 r ∧ a ≤ s ∧ s ≤ r ∧ r ≤ m ∧ (a < s → ∀ x y, (P ++ (A ++ (B ++ Q)))[s - 1]? = some x → (P ++ (A ++ (B ++ Q)))[n - s]? = some y → f x ≤ f y) ∧ (r < m → ∀ x y, (P ++ (A ++ (B ++ Q)))[r]? = some x → (P ++ (A ++ (B ++ Q)))[n - 1 - r]? = some y → f y < f x) ∧ Below w.heap.size w wr) (fun sv rv _ _ => (intOf rv - intOf sv).toNat)
    case atStart => exact ⟨a, m, rfl, rfl, Nat.le_refl _, HK.out.2.1, Nat.le_refl _, fun h => by omega, fun h => by omega, Below.refl _ _⟩
    case round =>
      obtain ⟨s, r, rfl, rfl, hs0, hsr, hr0, hlo, hhi, hbw⟩ := hrel
      have HLO := Lib.hid hlo
      have HHI := Lib.hid hhi
      have HBW := Lib.hid hbw
      have HJW : Hid (J wr) := HC.out.below HJ.out hbw
      have hsq : SeqAt wr g off (P ++ (A ++ (B ++ Q))) := HS.out.kept hbw
      clear hlo hhi hbw
      by_cases hlt : s < r
      · have e1 : (s : Int) < (r : Int) := by omega
        obtain ⟨c, hc⟩ : ∃ c, c = (s + r) / 2 := ⟨_, rfl⟩
        have hcc : ((s : Int) + (r : Int)) / 2 = (c : Int) := by omega
        obtain ⟨d, hd⟩ : ∃ d, d = n - 1 - c := ⟨_, rfl⟩
        have hsc : s ≤ c := by omega
        have hcr : c < r := by omega
        have hdd : (p : Int) - (c : Int) = (d : Int) := by have := HP.out; have := HK.out; have := HN.out; omega
        have hcl : c < len := by have := HK.out; omega
        have hdl : d < len := by have := HK.out; omega
        have hll : (P ++ (A ++ (B ++ Q))).length = len := by have := HLN.out; simp; omega
        obtain ⟨x, hx⟩ : ∃ x, (P ++ (A ++ (B ++ Q)))[c]? = some x := ⟨_, List.getElem?_eq_getElem (by omega)⟩
        obtain ⟨y, hy⟩ : ∃ y, (P ++ (A ++ (B ++ Q)))[d]? = some y := ⟨_, List.getElem?_eq_getElem (by omega)⟩
        have c1 := (hsq.2 c x hx).1
        have c2 := (hsq.2 d y hy).1
        have hca : ∀ u', Calls Tryz.prog 185 #[.int .i32 y, .int .i32 x, .pointer (some ⟨nb, 0, none⟩)] (over wr u') fun e w' => e = .returned (.int .i64 (f y - f x)) ∧ Below (over wr u').heap.size (over wr u') w' :=
          fun u' => HC.out.call y x _ (HC.out.keep _ _ HJW.out ((Only.refl _ _).below (below_over wr u')))
        obtain ⟨q, hqe⟩ : ∃ q, q = f y - f x := ⟨_, rfl⟩
        rw [← hqe] at hca
        have HCA := Lib.hid hca
        have hgl := hsq.1
        have HY := Lib.hid (And.intro hx (And.intro hy (And.intro hd hqe)))
        clear hsq hc hd hx hy hqe hll hca
        by_cases hq0 : q < 0
        · have g7 : decide (q < 0) = true := decide_eq_true hq0
          go_wp2_with fail
          refine wp_region_over (by kernel_rfl) (by kernel_rfl) ?_; (repeat (go_big_quiet_step (((go_at_call 185; exact over_of (HCA.out _)))))); refine wpQuiet_nil ?_; intro w1 hb1
          have HB1 := Lib.hid hb1
          clear hb1 c1 c2
          go_wp2_with fail
          go_roundw
          case rel =>
            obtain ⟨hx, hy, hd, hqe⟩ := HY.out
            refine ⟨s, c, rfl, rfl, hs0, hsc, by omega, HLO.out, fun _ x' y' hx' hy' => ?_, HBW.out.trans (HB1.out.mono HBW.out.size)⟩
            rw [hx] at hx'; rw [← hd, hy] at hy'
            cases hx'; cases hy'
            omega
          case measure => (show ((c : Int) - (s : Int)).toNat < ((r : Int) - (s : Int)).toNat; omega)
        · have g7 : decide (q < 0) = false := decide_eq_false hq0
          go_wp2_with fail
          refine wp_region_over (by kernel_rfl) (by kernel_rfl) ?_; (repeat (go_big_quiet_step (((go_at_call 185; exact over_of (HCA.out _)))))); refine wpQuiet_nil ?_; intro w1 hb1
          have HB1 := Lib.hid hb1
          clear hb1 c1 c2
          go_wp2_with fail
          go_roundw
          case rel =>
            obtain ⟨hx, hy, hd, hqe⟩ := HY.out
            refine ⟨c + 1, r, by go_num, rfl, by omega, by omega, hr0, fun _ x' y' hx' hy' => ?_, HHI.out, HBW.out.trans (HB1.out.mono HBW.out.size)⟩
            rw [Nat.add_sub_cancel, hx] at hx'; rw [show n - (c + 1) = d from by omega, hy] at hy'
            cases hx'; cases hy'
            omega
          case measure => (show ((r : Int) - ((c : Int) + 1)).toNat < ((r : Int) - (s : Int)).toNat; omega)
      · have e1 : ¬ ((s : Int) < (r : Int)) := by omega
        obtain rfl : s = r := by omega
        obtain ⟨e, he⟩ : ∃ e, e = n - s := ⟨_, rfl⟩
        have hes : (n : Int) - (s : Int) = (e : Int) := by have := HK.out; have := HN.out; omega
        obtain ⟨A1, A2, B1, B2, hA12, hB12, la1, la2, lb1, lb2, hc1, hc2⟩ : ∃ A1 A2 B1 B2 : List Int, A = A1 ++ A2 ∧ B = B1 ++ B2 ∧ a + A1.length = s ∧ s + A2.length = m ∧ m + B1.length = e ∧ e + B2.length = b ∧
            (∀ x y, A2.head? = some x → B1.getLast? = some y → f y < f x) ∧ (∀ x y, A1.getLast? = some x → B2.head? = some y → f x ≤ f y) :=
          sym_split (P := P) (Q := Q) HLN.out HN.out he ⟨HK.out.1, HK.out.2.1, HK.out.2.2.1, HK.out.2.2.2.1, HK.out.2.2.2.2.1, by have := HK.out; omega, by have := HK.out; omega⟩ hs0 hr0 HLO.out HHI.out
        have HSY := Lib.hid (And.intro hA12 (And.intro hB12 (And.intro hc1 hc2)))
        have HAB := Lib.hid (And.intro la1 (And.intro la2 (And.intro lb1 lb2)))
        have hO0 : Frm g off len w wr := Frm.of_below (HBW.out.mono (by have := HS.out.1; omega))
        have hmd : mid + A2.length = e := by have := HN.out; omega
        have HMD := Lib.hid hmd
        have hel : e ≤ 1000000000 := by omega
        have hsl : s ≤ 1000000000 := by omega
        subst hA12
        subst hB12
        have hsq1 : SeqAt wr g off ((P ++ A1) ++ (A2 ++ (B1 ++ (B2 ++ Q)))) := by simpa [List.append_assoc] using hsq
        clear hsq hc1 hc2 he hmd
        have hrot : (0 < A2.length ∧ 0 < B1.length) ∨ (0 < A2.length ∧ B1 = []) ∨ A2 = [] := by
          cases A2 with
          | nil => exact .inr (.inr rfl)
          | cons _ _ =>
            cases B1 with
            | nil => exact .inr (.inl ⟨by simp, rfl⟩)
            | cons _ _ => exact .inl ⟨by simp, by simp⟩
        rcases hrot with ⟨h1, h2⟩ | ⟨h1, h2⟩ | h1
        · have r1 : (s : Int) < (m : Int) := by omega
          have r2 : (m : Int) < (e : Int) := by omega
          have hro := rotate_any (.func (.func 185) #[] #[.pointer (some ⟨nb, 0, none⟩)]) g off cap s m e (P ++ A1) A2 B1 (B2 ++ Q) wr hsq1 (by have := HLN.out; simp; omega) la2 lb1 h1 h2 len (by have := HLN.out; simp at *; omega) hl
          have HO0 := Lib.hid hO0
          clear hsq1 hO0 h1 h2 la1 la2 lb1 lb2
          go_wp2_with fail
          with_reducible refine hro.mono ?_
          rintro e_ wr ⟨rfl, hs2, ho2⟩
          have HQ2 : Hid (SeqAt wr g off (P ++ ((A1 ++ B1) ++ (A2 ++ (B2 ++ Q))))) := by show SeqAt _ _ _ _; simpa [List.append_assoc] using hs2
          have HO2 : Hid (Frm g off len w wr) := HO0.out.trans ho2
          clear hro hs2 ho2 r1 r2
          have hr1 : (0 < A1.length ∧ 0 < B1.length) ∨ (0 < A1.length ∧ B1 = []) ∨ A1 = [] := three_ways A1 B1
          rcases hr1 with ⟨h1, h2⟩ | ⟨h1, h2⟩ | h1
          · have r3 : (a : Int) < (s : Int) := by have := HAB.out; omega
            have r4 : (s : Int) < (mid : Int) := by have := HAB.out; have := HMD.out; omega
            have hsr := HIH.out a s mid P A1 B1 (A2 ++ (B2 ++ Q)) wr (by have := HK.out; have := HAB.out; have := HMD.out; have := HLN.out; simp at *; omega) h1 h2 HSA.out.left HSB.out.left (by simpa [List.append_assoc] using HQ2.out) (HC.out.keep _ _ HJ.out HO2.out.only) HLN.out.1 HAB.out.1 (by have := HAB.out; have := HMD.out; have := HN.out; omega) (by have := HLN.out; simp at *; omega)
            clear h1 h2
            go_wp2_with fail
            with_reducible refine hsr.mono ?_
            rintro e_ wr ⟨rfl, ⟨M1, hM1, hs3⟩, ho3⟩
            have HM1 := Lib.hid hM1
            have HQ3 : Hid (SeqAt wr g off (P ++ (M1 ++ (A2 ++ (B2 ++ Q))))) := hs3
            have HO3 : Hid (Frm g off len w wr) := HO2.out.trans ho3
            clear hsr hM1 hs3 ho3 r3 r4
            have hr2 : (0 < A2.length ∧ 0 < B2.length) ∨ (0 < A2.length ∧ B2 = []) ∨ A2 = [] := three_ways A2 B2
            rcases hr2 with ⟨h1, h2⟩ | ⟨h1, h2⟩ | h1
            · have r5 : (mid : Int) < (e : Int) := by have := HMD.out; omega
              have r6 : (e : Int) < (b : Int) := by have := HAB.out; omega
              have hml := HM1.out.length
              have hsr := HIH.out mid e b (P ++ M1) A2 B2 Q wr (by have := HAB.out; have := HMD.out; have := HLN.out; have := HK.out; have := HN.out; simp at *; omega) h1 h2 HSA.out.right HSB.out.right (by simpa [List.append_assoc] using HQ3.out) (HC.out.keep _ _ HJ.out HO3.out.only) (by have := HAB.out; have := HMD.out; have := HN.out; have := HLN.out; simp at *; omega) HMD.out HAB.out.2.2.2 (by have := HLN.out; simp at *; omega)
              clear h1 h2 hml
              go_wp2_with fail
              all_goals
                with_reducible refine hsr.mono ?_
                rintro e_ wr ⟨rfl, ⟨M2, hM2, hs4⟩, ho4⟩
                have HM2 := Lib.hid hM2
                have HQ4 := Lib.hid hs4
                have HO4 : Hid (Frm g off len w wr) := HO3.out.trans ho4
                clear hsr hM2 hs4 ho4
                go_wp2_with fail
                all_goals
                  go_end0
                  have hfin := sym_parts HSA.out HSB.out HM1.out HM2.out HSY.out.2.2.1 HSY.out.2.2.2
                  exact ⟨rfl, ⟨M1 ++ M2, by first | exact hfin | simpa [List.append_assoc] using hfin, by simpa [List.append_assoc] using HQ4.out⟩, HO4.out⟩
            · have r5 : (mid : Int) < (e : Int) := by have := HMD.out; omega
              have r6 : ¬ ((e : Int) < (b : Int)) := by have := HAB.out.2.2.2; rw [h2, List.length_nil] at this; omega
              have HM2 : Hid (Stab f (A2 ++ B2) (A2 ++ B2)) := Stab.self (srt_nil_left HSA.out.right HSB.out.right (.inr h2))
              clear h1 h2
              go_wp2_with fail
              all_goals
                go_end0
                have hfin := sym_parts HSA.out HSB.out HM1.out HM2.out HSY.out.2.2.1 HSY.out.2.2.2
                exact ⟨rfl, ⟨M1 ++ (A2 ++ B2), by first | exact hfin | simpa [List.append_assoc] using hfin, by simpa [List.append_assoc] using HQ3.out⟩, HO3.out⟩
            · have r5 : ¬ ((mid : Int) < (e : Int)) := by have := HMD.out; rw [h1, List.length_nil] at this; omega
              have HM2 : Hid (Stab f (A2 ++ B2) (A2 ++ B2)) := Stab.self (srt_nil_left HSA.out.right HSB.out.right (.inl h1))
              clear h1
              go_wp2_with fail
              all_goals
                go_end0
                have hfin := sym_parts HSA.out HSB.out HM1.out HM2.out HSY.out.2.2.1 HSY.out.2.2.2
                exact ⟨rfl, ⟨M1 ++ (A2 ++ B2), by first | exact hfin | simpa [List.append_assoc] using hfin, by simpa [List.append_assoc] using HQ3.out⟩, HO3.out⟩
          · have r3 : (a : Int) < (s : Int) := by have := HAB.out; omega
            have r4 : ¬ ((s : Int) < (mid : Int)) := by
              have h3 : B1.length = 0 := by rw [h2]; rfl
              have := HAB.out
              have := HMD.out
              omega
            obtain ⟨M1, hm1⟩ : ∃ M1, M1 = A1 ++ B1 := ⟨_, rfl⟩
            have HM1 : Hid (Stab f (A1 ++ B1) M1) := by show Stab _ _ _; rw [hm1]; exact Stab.self (srt_nil_left HSA.out.left HSB.out.left (.inr h2))
            have HQ3 : Hid (SeqAt wr g off (P ++ (M1 ++ (A2 ++ (B2 ++ Q))))) := by show SeqAt _ _ _ _; rw [hm1]; exact HQ2.out
            have HO3 := HO2
            clear hm1 h1 h2
            have hr2 : (0 < A2.length ∧ 0 < B2.length) ∨ (0 < A2.length ∧ B2 = []) ∨ A2 = [] := three_ways A2 B2
            rcases hr2 with ⟨h1, h2⟩ | ⟨h1, h2⟩ | h1
            · have r5 : (mid : Int) < (e : Int) := by have := HMD.out; omega
              have r6 : (e : Int) < (b : Int) := by have := HAB.out; omega
              have hml := HM1.out.length
              have hsr := HIH.out mid e b (P ++ M1) A2 B2 Q wr (by have := HAB.out; have := HMD.out; have := HLN.out; have := HK.out; have := HN.out; simp at *; omega) h1 h2 HSA.out.right HSB.out.right (by simpa [List.append_assoc] using HQ3.out) (HC.out.keep _ _ HJ.out HO3.out.only) (by have := HAB.out; have := HMD.out; have := HN.out; have := HLN.out; simp at *; omega) HMD.out HAB.out.2.2.2 (by have := HLN.out; simp at *; omega)
              clear h1 h2 hml
              go_wp2_with fail
              all_goals
                with_reducible refine hsr.mono ?_
                rintro e_ wr ⟨rfl, ⟨M2, hM2, hs4⟩, ho4⟩
                have HM2 := Lib.hid hM2
                have HQ4 := Lib.hid hs4
                have HO4 : Hid (Frm g off len w wr) := HO3.out.trans ho4
                clear hsr hM2 hs4 ho4
                go_wp2_with fail
                all_goals
                  go_end0
                  have hfin := sym_parts HSA.out HSB.out HM1.out HM2.out HSY.out.2.2.1 HSY.out.2.2.2
                  exact ⟨rfl, ⟨M1 ++ M2, by first | exact hfin | simpa [List.append_assoc] using hfin, by simpa [List.append_assoc] using HQ4.out⟩, HO4.out⟩
            · have r5 : (mid : Int) < (e : Int) := by have := HMD.out; omega
              have r6 : ¬ ((e : Int) < (b : Int)) := by have := HAB.out.2.2.2; rw [h2, List.length_nil] at this; omega
              have HM2 : Hid (Stab f (A2 ++ B2) (A2 ++ B2)) := Stab.self (srt_nil_left HSA.out.right HSB.out.right (.inr h2))
              clear h1 h2
              go_wp2_with fail
              all_goals
                go_end0
                have hfin := sym_parts HSA.out HSB.out HM1.out HM2.out HSY.out.2.2.1 HSY.out.2.2.2
                exact ⟨rfl, ⟨M1 ++ (A2 ++ B2), by first | exact hfin | simpa [List.append_assoc] using hfin, by simpa [List.append_assoc] using HQ3.out⟩, HO3.out⟩
            · have r5 : ¬ ((mid : Int) < (e : Int)) := by have := HMD.out; rw [h1, List.length_nil] at this; omega
              have HM2 : Hid (Stab f (A2 ++ B2) (A2 ++ B2)) := Stab.self (srt_nil_left HSA.out.right HSB.out.right (.inl h1))
              clear h1
              go_wp2_with fail
              all_goals
                go_end0
                have hfin := sym_parts HSA.out HSB.out HM1.out HM2.out HSY.out.2.2.1 HSY.out.2.2.2
                exact ⟨rfl, ⟨M1 ++ (A2 ++ B2), by first | exact hfin | simpa [List.append_assoc] using hfin, by simpa [List.append_assoc] using HQ3.out⟩, HO3.out⟩
          · have r3 : ¬ ((a : Int) < (s : Int)) := by have := HAB.out; rw [h1, List.length_nil] at this; omega
            obtain ⟨M1, hm1⟩ : ∃ M1, M1 = A1 ++ B1 := ⟨_, rfl⟩
            have HM1 : Hid (Stab f (A1 ++ B1) M1) := by show Stab _ _ _; rw [hm1]; exact Stab.self (srt_nil_left HSA.out.left HSB.out.left (.inl h1))
            have HQ3 : Hid (SeqAt wr g off (P ++ (M1 ++ (A2 ++ (B2 ++ Q))))) := by show SeqAt _ _ _ _; rw [hm1]; exact HQ2.out
            have HO3 := HO2
            clear hm1 h1
            have hr2 : (0 < A2.length ∧ 0 < B2.length) ∨ (0 < A2.length ∧ B2 = []) ∨ A2 = [] := three_ways A2 B2
            rcases hr2 with ⟨h1, h2⟩ | ⟨h1, h2⟩ | h1
            · have r5 : (mid : Int) < (e : Int) := by have := HMD.out; omega
              have r6 : (e : Int) < (b : Int) := by have := HAB.out; omega
              have hml := HM1.out.length
              have hsr := HIH.out mid e b (P ++ M1) A2 B2 Q wr (by have := HAB.out; have := HMD.out; have := HLN.out; have := HK.out; have := HN.out; simp at *; omega) h1 h2 HSA.out.right HSB.out.right (by simpa [List.append_assoc] using HQ3.out) (HC.out.keep _ _ HJ.out HO3.out.only) (by have := HAB.out; have := HMD.out; have := HN.out; have := HLN.out; simp at *; omega) HMD.out HAB.out.2.2.2 (by have := HLN.out; simp at *; omega)
              clear h1 h2 hml
              go_wp2_with fail
              all_goals
                with_reducible refine hsr.mono ?_
                rintro e_ wr ⟨rfl, ⟨M2, hM2, hs4⟩, ho4⟩
                have HM2 := Lib.hid hM2
                have HQ4 := Lib.hid hs4
                have HO4 : Hid (Frm g off len w wr) := HO3.out.trans ho4
                clear hsr hM2 hs4 ho4
                go_wp2_with fail
                all_goals
                  go_end0
                  have hfin := sym_parts HSA.out HSB.out HM1.out HM2.out HSY.out.2.2.1 HSY.out.2.2.2
                  exact ⟨rfl, ⟨M1 ++ M2, by first | exact hfin | simpa [List.append_assoc] using hfin, by simpa [List.append_assoc] using HQ4.out⟩, HO4.out⟩
            · have r5 : (mid : Int) < (e : Int) := by have := HMD.out; omega
              have r6 : ¬ ((e : Int) < (b : Int)) := by have := HAB.out.2.2.2; rw [h2, List.length_nil] at this; omega
              have HM2 : Hid (Stab f (A2 ++ B2) (A2 ++ B2)) := Stab.self (srt_nil_left HSA.out.right HSB.out.right (.inr h2))
              clear h1 h2
              go_wp2_with fail
              all_goals
                go_end0
                have hfin := sym_parts HSA.out HSB.out HM1.out HM2.out HSY.out.2.2.1 HSY.out.2.2.2
                exact ⟨rfl, ⟨M1 ++ (A2 ++ B2), by first | exact hfin | simpa [List.append_assoc] using hfin, by simpa [List.append_assoc] using HQ3.out⟩, HO3.out⟩
            · have r5 : ¬ ((mid : Int) < (e : Int)) := by have := HMD.out; rw [h1, List.length_nil] at this; omega
              have HM2 : Hid (Stab f (A2 ++ B2) (A2 ++ B2)) := Stab.self (srt_nil_left HSA.out.right HSB.out.right (.inl h1))
              clear h1
              go_wp2_with fail
              all_goals
                go_end0
                have hfin := sym_parts HSA.out HSB.out HM1.out HM2.out HSY.out.2.2.1 HSY.out.2.2.2
                exact ⟨rfl, ⟨M1 ++ (A2 ++ B2), by first | exact hfin | simpa [List.append_assoc] using hfin, by simpa [List.append_assoc] using HQ3.out⟩, HO3.out⟩
        · have r1 : (s : Int) < (m : Int) := by omega
          have r2 : ¬ ((m : Int) < (e : Int)) := by rw [h2, List.length_nil] at lb1; omega
          have HQ2 : Hid (SeqAt wr g off (P ++ ((A1 ++ B1) ++ (A2 ++ (B2 ++ Q))))) := by show SeqAt _ _ _ _; rw [h2] at hsq1 ⊢; simpa [List.append_assoc] using hsq1
          have HO2 : Hid (Frm g off len w wr) := hO0
          clear hsq1 hO0 h1 h2 la1 la2 lb1 lb2
          have hr1 : (0 < A1.length ∧ 0 < B1.length) ∨ (0 < A1.length ∧ B1 = []) ∨ A1 = [] := three_ways A1 B1
          rcases hr1 with ⟨h1, h2⟩ | ⟨h1, h2⟩ | h1
          · have r3 : (a : Int) < (s : Int) := by have := HAB.out; omega
            have r4 : (s : Int) < (mid : Int) := by have := HAB.out; have := HMD.out; omega
            have hsr := HIH.out a s mid P A1 B1 (A2 ++ (B2 ++ Q)) wr (by have := HK.out; have := HAB.out; have := HMD.out; have := HLN.out; simp at *; omega) h1 h2 HSA.out.left HSB.out.left (by simpa [List.append_assoc] using HQ2.out) (HC.out.keep _ _ HJ.out HO2.out.only) HLN.out.1 HAB.out.1 (by have := HAB.out; have := HMD.out; have := HN.out; omega) (by have := HLN.out; simp at *; omega)
            clear h1 h2
            go_wp2_with fail
            with_reducible refine hsr.mono ?_
            rintro e_ wr ⟨rfl, ⟨M1, hM1, hs3⟩, ho3⟩
            have HM1 := Lib.hid hM1
            have HQ3 : Hid (SeqAt wr g off (P ++ (M1 ++ (A2 ++ (B2 ++ Q))))) := hs3
            have HO3 : Hid (Frm g off len w wr) := HO2.out.trans ho3
            clear hsr hM1 hs3 ho3 r3 r4
            have hr2 : (0 < A2.length ∧ 0 < B2.length) ∨ (0 < A2.length ∧ B2 = []) ∨ A2 = [] := three_ways A2 B2
            rcases hr2 with ⟨h1, h2⟩ | ⟨h1, h2⟩ | h1
            · have r5 : (mid : Int) < (e : Int) := by have := HMD.out; omega
              have r6 : (e : Int) < (b : Int) := by have := HAB.out; omega
              have hml := HM1.out.length
              have hsr := HIH.out mid e b (P ++ M1) A2 B2 Q wr (by have := HAB.out; have := HMD.out; have := HLN.out; have := HK.out; have := HN.out; simp at *; omega) h1 h2 HSA.out.right HSB.out.right (by simpa [List.append_assoc] using HQ3.out) (HC.out.keep _ _ HJ.out HO3.out.only) (by have := HAB.out; have := HMD.out; have := HN.out; have := HLN.out; simp at *; omega) HMD.out HAB.out.2.2.2 (by have := HLN.out; simp at *; omega)
              clear h1 h2 hml
              go_wp2_with fail
              all_goals
                with_reducible refine hsr.mono ?_
                rintro e_ wr ⟨rfl, ⟨M2, hM2, hs4⟩, ho4⟩
                have HM2 := Lib.hid hM2
                have HQ4 := Lib.hid hs4
                have HO4 : Hid (Frm g off len w wr) := HO3.out.trans ho4
                clear hsr hM2 hs4 ho4
                go_wp2_with fail
                all_goals
                  go_end0
                  have hfin := sym_parts HSA.out HSB.out HM1.out HM2.out HSY.out.2.2.1 HSY.out.2.2.2
                  exact ⟨rfl, ⟨M1 ++ M2, by first | exact hfin | simpa [List.append_assoc] using hfin, by simpa [List.append_assoc] using HQ4.out⟩, HO4.out⟩
            · have r5 : (mid : Int) < (e : Int) := by have := HMD.out; omega
              have r6 : ¬ ((e : Int) < (b : Int)) := by have := HAB.out.2.2.2; rw [h2, List.length_nil] at this; omega
              have HM2 : Hid (Stab f (A2 ++ B2) (A2 ++ B2)) := Stab.self (srt_nil_left HSA.out.right HSB.out.right (.inr h2))
              clear h1 h2
              go_wp2_with fail
              all_goals
                go_end0
                have hfin := sym_parts HSA.out HSB.out HM1.out HM2.out HSY.out.2.2.1 HSY.out.2.2.2
                exact ⟨rfl, ⟨M1 ++ (A2 ++ B2), by first | exact hfin | simpa [List.append_assoc] using hfin, by simpa [List.append_assoc] using HQ3.out⟩, HO3.out⟩
            · have r5 : ¬ ((mid : Int) < (e : Int)) := by have := HMD.out; rw [h1, List.length_nil] at this; omega
              have HM2 : Hid (Stab f (A2 ++ B2) (A2 ++ B2)) := Stab.self (srt_nil_left HSA.out.right HSB.out.right (.inl h1))
              clear h1
              go_wp2_with fail
              all_goals
                go_end0
                have hfin := sym_parts HSA.out HSB.out HM1.out HM2.out HSY.out.2.2.1 HSY.out.2.2.2
                exact ⟨rfl, ⟨M1 ++ (A2 ++ B2), by first | exact hfin | simpa [List.append_assoc] using hfin, by simpa [List.append_assoc] using HQ3.out⟩, HO3.out⟩
          · have r3 : (a : Int) < (s : Int) := by have := HAB.out; omega
            have r4 : ¬ ((s : Int) < (mid : Int)) := by
              have h3 : B1.length = 0 := by rw [h2]; rfl
              have := HAB.out
              have := HMD.out
              omega
            obtain ⟨M1, hm1⟩ : ∃ M1, M1 = A1 ++ B1 := ⟨_, rfl⟩
            have HM1 : Hid (Stab f (A1 ++ B1) M1) := by show Stab _ _ _; rw [hm1]; exact Stab.self (srt_nil_left HSA.out.left HSB.out.left (.inr h2))
            have HQ3 : Hid (SeqAt wr g off (P ++ (M1 ++ (A2 ++ (B2 ++ Q))))) := by show SeqAt _ _ _ _; rw [hm1]; exact HQ2.out
            have HO3 := HO2
            clear hm1 h1 h2
            have hr2 : (0 < A2.length ∧ 0 < B2.length) ∨ (0 < A2.length ∧ B2 = []) ∨ A2 = [] := three_ways A2 B2
            rcases hr2 with ⟨h1, h2⟩ | ⟨h1, h2⟩ | h1
            · have r5 : (mid : Int) < (e : Int) := by have := HMD.out; omega
              have r6 : (e : Int) < (b : Int) := by have := HAB.out; omega
              have hml := HM1.out.length
              have hsr := HIH.out mid e b (P ++ M1) A2 B2 Q wr (by have := HAB.out; have := HMD.out; have := HLN.out; have := HK.out; have := HN.out; simp at *; omega) h1 h2 HSA.out.right HSB.out.right (by simpa [List.append_assoc] using HQ3.out) (HC.out.keep _ _ HJ.out HO3.out.only) (by have := HAB.out; have := HMD.out; have := HN.out; have := HLN.out; simp at *; omega) HMD.out HAB.out.2.2.2 (by have := HLN.out; simp at *; omega)
              clear h1 h2 hml
              go_wp2_with fail
              all_goals
                with_reducible refine hsr.mono ?_
                rintro e_ wr ⟨rfl, ⟨M2, hM2, hs4⟩, ho4⟩
                have HM2 := Lib.hid hM2
                have HQ4 := Lib.hid hs4
                have HO4 : Hid (Frm g off len w wr) := HO3.out.trans ho4
                clear hsr hM2 hs4 ho4
                go_wp2_with fail
                all_goals
                  go_end0
                  have hfin := sym_parts HSA.out HSB.out HM1.out HM2.out HSY.out.2.2.1 HSY.out.2.2.2
                  exact ⟨rfl, ⟨M1 ++ M2, by first | exact hfin | simpa [List.append_assoc] using hfin, by simpa [List.append_assoc] using HQ4.out⟩, HO4.out⟩
            · have r5 : (mid : Int) < (e : Int) := by have := HMD.out; omega
              have r6 : ¬ ((e : Int) < (b : Int)) := by have := HAB.out.2.2.2; rw [h2, List.length_nil] at this; omega
              have HM2 : Hid (Stab f (A2 ++ B2) (A2 ++ B2)) := Stab.self (srt_nil_left HSA.out.right HSB.out.right (.inr h2))
              clear h1 h2
              go_wp2_with fail
              all_goals
                go_end0
                have hfin := sym_parts HSA.out HSB.out HM1.out HM2.out HSY.out.2.2.1 HSY.out.2.2.2
                exact ⟨rfl, ⟨M1 ++ (A2 ++ B2), by first | exact hfin | simpa [List.append_assoc] using hfin, by simpa [List.append_assoc] using HQ3.out⟩, HO3.out⟩
            · have r5 : ¬ ((mid : Int) < (e : Int)) := by have := HMD.out; rw [h1, List.length_nil] at this; omega
              have HM2 : Hid (Stab f (A2 ++ B2) (A2 ++ B2)) := Stab.self (srt_nil_left HSA.out.right HSB.out.right (.inl h1))
              clear h1
              go_wp2_with fail
              all_goals
                go_end0
                have hfin := sym_parts HSA.out HSB.out HM1.out HM2.out HSY.out.2.2.1 HSY.out.2.2.2
                exact ⟨rfl, ⟨M1 ++ (A2 ++ B2), by first | exact hfin | simpa [List.append_assoc] using hfin, by simpa [List.append_assoc] using HQ3.out⟩, HO3.out⟩
          · have r3 : ¬ ((a : Int) < (s : Int)) := by have := HAB.out; rw [h1, List.length_nil] at this; omega
            obtain ⟨M1, hm1⟩ : ∃ M1, M1 = A1 ++ B1 := ⟨_, rfl⟩
            have HM1 : Hid (Stab f (A1 ++ B1) M1) := by show Stab _ _ _; rw [hm1]; exact Stab.self (srt_nil_left HSA.out.left HSB.out.left (.inl h1))
            have HQ3 : Hid (SeqAt wr g off (P ++ (M1 ++ (A2 ++ (B2 ++ Q))))) := by show SeqAt _ _ _ _; rw [hm1]; exact HQ2.out
            have HO3 := HO2
            clear hm1 h1
            have hr2 : (0 < A2.length ∧ 0 < B2.length) ∨ (0 < A2.length ∧ B2 = []) ∨ A2 = [] := three_ways A2 B2
            rcases hr2 with ⟨h1, h2⟩ | ⟨h1, h2⟩ | h1
            · have r5 : (mid : Int) < (e : Int) := by have := HMD.out; omega
              have r6 : (e : Int) < (b : Int) := by have := HAB.out; omega
              have hml := HM1.out.length
              have hsr := HIH.out mid e b (P ++ M1) A2 B2 Q wr (by have := HAB.out; have := HMD.out; have := HLN.out; have := HK.out; have := HN.out; simp at *; omega) h1 h2 HSA.out.right HSB.out.right (by simpa [List.append_assoc] using HQ3.out) (HC.out.keep _ _ HJ.out HO3.out.only) (by have := HAB.out; have := HMD.out; have := HN.out; have := HLN.out; simp at *; omega) HMD.out HAB.out.2.2.2 (by have := HLN.out; simp at *; omega)
              clear h1 h2 hml
              go_wp2_with fail
              all_goals
                with_reducible refine hsr.mono ?_
                rintro e_ wr ⟨rfl, ⟨M2, hM2, hs4⟩, ho4⟩
                have HM2 := Lib.hid hM2
                have HQ4 := Lib.hid hs4
                have HO4 : Hid (Frm g off len w wr) := HO3.out.trans ho4
                clear hsr hM2 hs4 ho4
                go_wp2_with fail
                all_goals
                  go_end0
                  have hfin := sym_parts HSA.out HSB.out HM1.out HM2.out HSY.out.2.2.1 HSY.out.2.2.2
                  exact ⟨rfl, ⟨M1 ++ M2, by first | exact hfin | simpa [List.append_assoc] using hfin, by simpa [List.append_assoc] using HQ4.out⟩, HO4.out⟩
            · have r5 : (mid : Int) < (e : Int) := by have := HMD.out; omega
              have r6 : ¬ ((e : Int) < (b : Int)) := by have := HAB.out.2.2.2; rw [h2, List.length_nil] at this; omega
              have HM2 : Hid (Stab f (A2 ++ B2) (A2 ++ B2)) := Stab.self (srt_nil_left HSA.out.right HSB.out.right (.inr h2))
              clear h1 h2
              go_wp2_with fail
              all_goals
                go_end0
                have hfin := sym_parts HSA.out HSB.out HM1.out HM2.out HSY.out.2.2.1 HSY.out.2.2.2
                exact ⟨rfl, ⟨M1 ++ (A2 ++ B2), by first | exact hfin | simpa [List.append_assoc] using hfin, by simpa [List.append_assoc] using HQ3.out⟩, HO3.out⟩
            · have r5 : ¬ ((mid : Int) < (e : Int)) := by have := HMD.out; rw [h1, List.length_nil] at this; omega
              have HM2 : Hid (Stab f (A2 ++ B2) (A2 ++ B2)) := Stab.self (srt_nil_left HSA.out.right HSB.out.right (.inl h1))
              clear h1
              go_wp2_with fail
              all_goals
                go_end0
                have hfin := sym_parts HSA.out HSB.out HM1.out HM2.out HSY.out.2.2.1 HSY.out.2.2.2
                exact ⟨rfl, ⟨M1 ++ (A2 ++ B2), by first | exact hfin | simpa [List.append_assoc] using hfin, by simpa [List.append_assoc] using HQ3.out⟩, HO3.out⟩
        · have r1 : ¬ ((s : Int) < (m : Int)) := by rw [h1, List.length_nil] at la2; omega
          have HQ2 : Hid (SeqAt wr g off (P ++ ((A1 ++ B1) ++ (A2 ++ (B2 ++ Q))))) := by show SeqAt _ _ _ _; rw [h1] at hsq1 ⊢; simpa [List.append_assoc] using hsq1
          have HO2 : Hid (Frm g off len w wr) := hO0
          clear hsq1 hO0 h1 la1 la2 lb1 lb2
          have hr1 : (0 < A1.length ∧ 0 < B1.length) ∨ (0 < A1.length ∧ B1 = []) ∨ A1 = [] := three_ways A1 B1
          rcases hr1 with ⟨h1, h2⟩ | ⟨h1, h2⟩ | h1
          · have r3 : (a : Int) < (s : Int) := by have := HAB.out; omega
            have r4 : (s : Int) < (mid : Int) := by have := HAB.out; have := HMD.out; omega
            have hsr := HIH.out a s mid P A1 B1 (A2 ++ (B2 ++ Q)) wr (by have := HK.out; have := HAB.out; have := HMD.out; have := HLN.out; simp at *; omega) h1 h2 HSA.out.left HSB.out.left (by simpa [List.append_assoc] using HQ2.out) (HC.out.keep _ _ HJ.out HO2.out.only) HLN.out.1 HAB.out.1 (by have := HAB.out; have := HMD.out; have := HN.out; omega) (by have := HLN.out; simp at *; omega)
            clear h1 h2
            go_wp2_with fail
            with_reducible refine hsr.mono ?_
            rintro e_ wr ⟨rfl, ⟨M1, hM1, hs3⟩, ho3⟩
            have HM1 := Lib.hid hM1
            have HQ3 : Hid (SeqAt wr g off (P ++ (M1 ++ (A2 ++ (B2 ++ Q))))) := hs3
            have HO3 : Hid (Frm g off len w wr) := HO2.out.trans ho3
            clear hsr hM1 hs3 ho3 r3 r4
            have hr2 : (0 < A2.length ∧ 0 < B2.length) ∨ (0 < A2.length ∧ B2 = []) ∨ A2 = [] := three_ways A2 B2
            rcases hr2 with ⟨h1, h2⟩ | ⟨h1, h2⟩ | h1
            · have r5 : (mid : Int) < (e : Int) := by have := HMD.out; omega
              have r6 : (e : Int) < (b : Int) := by have := HAB.out; omega
              have hml := HM1.out.length
              have hsr := HIH.out mid e b (P ++ M1) A2 B2 Q wr (by have := HAB.out; have := HMD.out; have := HLN.out; have := HK.out; have := HN.out; simp at *; omega) h1 h2 HSA.out.right HSB.out.right (by simpa [List.append_assoc] using HQ3.out) (HC.out.keep _ _ HJ.out HO3.out.only) (by have := HAB.out; have := HMD.out; have := HN.out; have := HLN.out; simp at *; omega) HMD.out HAB.out.2.2.2 (by have := HLN.out; simp at *; omega)
              clear h1 h2 hml
              go_wp2_with fail
              all_goals
                with_reducible refine hsr.mono ?_
                rintro e_ wr ⟨rfl, ⟨M2, hM2, hs4⟩, ho4⟩
                have HM2 := Lib.hid hM2
                have HQ4 := Lib.hid hs4
                have HO4 : Hid (Frm g off len w wr) := HO3.out.trans ho4
                clear hsr hM2 hs4 ho4
                go_wp2_with fail
                all_goals
                  go_end0
                  have hfin := sym_parts HSA.out HSB.out HM1.out HM2.out HSY.out.2.2.1 HSY.out.2.2.2
                  exact ⟨rfl, ⟨M1 ++ M2, by first | exact hfin | simpa [List.append_assoc] using hfin, by simpa [List.append_assoc] using HQ4.out⟩, HO4.out⟩
            · have r5 : (mid : Int) < (e : Int) := by have := HMD.out; omega
              have r6 : ¬ ((e : Int) < (b : Int)) := by have := HAB.out.2.2.2; rw [h2, List.length_nil] at this; omega
              have HM2 : Hid (Stab f (A2 ++ B2) (A2 ++ B2)) := Stab.self (srt_nil_left HSA.out.right HSB.out.right (.inr h2))
              clear h1 h2
              go_wp2_with fail
              all_goals
                go_end0
                have hfin := sym_parts HSA.out HSB.out HM1.out HM2.out HSY.out.2.2.1 HSY.out.2.2.2
                exact ⟨rfl, ⟨M1 ++ (A2 ++ B2), by first | exact hfin | simpa [List.append_assoc] using hfin, by simpa [List.append_assoc] using HQ3.out⟩, HO3.out⟩
            · have r5 : ¬ ((mid : Int) < (e : Int)) := by have := HMD.out; rw [h1, List.length_nil] at this; omega
              have HM2 : Hid (Stab f (A2 ++ B2) (A2 ++ B2)) := Stab.self (srt_nil_left HSA.out.right HSB.out.right (.inl h1))
              clear h1
              go_wp2_with fail
              all_goals
                go_end0
                have hfin := sym_parts HSA.out HSB.out HM1.out HM2.out HSY.out.2.2.1 HSY.out.2.2.2
                exact ⟨rfl, ⟨M1 ++ (A2 ++ B2), by first | exact hfin | simpa [List.append_assoc] using hfin, by simpa [List.append_assoc] using HQ3.out⟩, HO3.out⟩
          · have r3 : (a : Int) < (s : Int) := by have := HAB.out; omega
            have r4 : ¬ ((s : Int) < (mid : Int)) := by
              have h3 : B1.length = 0 := by rw [h2]; rfl
              have := HAB.out
              have := HMD.out
              omega
            obtain ⟨M1, hm1⟩ : ∃ M1, M1 = A1 ++ B1 := ⟨_, rfl⟩
            have HM1 : Hid (Stab f (A1 ++ B1) M1) := by show Stab _ _ _; rw [hm1]; exact Stab.self (srt_nil_left HSA.out.left HSB.out.left (.inr h2))
            have HQ3 : Hid (SeqAt wr g off (P ++ (M1 ++ (A2 ++ (B2 ++ Q))))) := by show SeqAt _ _ _ _; rw [hm1]; exact HQ2.out
            have HO3 := HO2
            clear hm1 h1 h2
            have hr2 : (0 < A2.length ∧ 0 < B2.length) ∨ (0 < A2.length ∧ B2 = []) ∨ A2 = [] := three_ways A2 B2
            rcases hr2 with ⟨h1, h2⟩ | ⟨h1, h2⟩ | h1
            · have r5 : (mid : Int) < (e : Int) := by have := HMD.out; omega
              have r6 : (e : Int) < (b : Int) := by have := HAB.out; omega
              have hml := HM1.out.length
              have hsr := HIH.out mid e b (P ++ M1) A2 B2 Q wr (by have := HAB.out; have := HMD.out; have := HLN.out; have := HK.out; have := HN.out; simp at *; omega) h1 h2 HSA.out.right HSB.out.right (by simpa [List.append_assoc] using HQ3.out) (HC.out.keep _ _ HJ.out HO3.out.only) (by have := HAB.out; have := HMD.out; have := HN.out; have := HLN.out; simp at *; omega) HMD.out HAB.out.2.2.2 (by have := HLN.out; simp at *; omega)
              clear h1 h2 hml
              go_wp2_with fail
              all_goals
                with_reducible refine hsr.mono ?_
                rintro e_ wr ⟨rfl, ⟨M2, hM2, hs4⟩, ho4⟩
                have HM2 := Lib.hid hM2
                have HQ4 := Lib.hid hs4
                have HO4 : Hid (Frm g off len w wr) := HO3.out.trans ho4
                clear hsr hM2 hs4 ho4
                go_wp2_with fail
                all_goals
                  go_end0
                  have hfin := sym_parts HSA.out HSB.out HM1.out HM2.out HSY.out.2.2.1 HSY.out.2.2.2
                  exact ⟨rfl, ⟨M1 ++ M2, by first | exact hfin | simpa [List.append_assoc] using hfin, by simpa [List.append_assoc] using HQ4.out⟩, HO4.out⟩
            · have r5 : (mid : Int) < (e : Int) := by have := HMD.out; omega
              have r6 : ¬ ((e : Int) < (b : Int)) := by have := HAB.out.2.2.2; rw [h2, List.length_nil] at this; omega
              have HM2 : Hid (Stab f (A2 ++ B2) (A2 ++ B2)) := Stab.self (srt_nil_left HSA.out.right HSB.out.right (.inr h2))
              clear h1 h2
              go_wp2_with fail
              all_goals
                go_end0
                have hfin := sym_parts HSA.out HSB.out HM1.out HM2.out HSY.out.2.2.1 HSY.out.2.2.2
                exact ⟨rfl, ⟨M1 ++ (A2 ++ B2), by first | exact hfin | simpa [List.append_assoc] using hfin, by simpa [List.append_assoc] using HQ3.out⟩, HO3.out⟩
            · have r5 : ¬ ((mid : Int) < (e : Int)) := by have := HMD.out; rw [h1, List.length_nil] at this; omega
              have HM2 : Hid (Stab f (A2 ++ B2) (A2 ++ B2)) := Stab.self (srt_nil_left HSA.out.right HSB.out.right (.inl h1))
              clear h1
              go_wp2_with fail
              all_goals
                go_end0
                have hfin := sym_parts HSA.out HSB.out HM1.out HM2.out HSY.out.2.2.1 HSY.out.2.2.2
                exact ⟨rfl, ⟨M1 ++ (A2 ++ B2), by first | exact hfin | simpa [List.append_assoc] using hfin, by simpa [List.append_assoc] using HQ3.out⟩, HO3.out⟩
          · have r3 : ¬ ((a : Int) < (s : Int)) := by have := HAB.out; rw [h1, List.length_nil] at this; omega
            obtain ⟨M1, hm1⟩ : ∃ M1, M1 = A1 ++ B1 := ⟨_, rfl⟩
            have HM1 : Hid (Stab f (A1 ++ B1) M1) := by show Stab _ _ _; rw [hm1]; exact Stab.self (srt_nil_left HSA.out.left HSB.out.left (.inl h1))
            have HQ3 : Hid (SeqAt wr g off (P ++ (M1 ++ (A2 ++ (B2 ++ Q))))) := by show SeqAt _ _ _ _; rw [hm1]; exact HQ2.out
            have HO3 := HO2
            clear hm1 h1
            have hr2 : (0 < A2.length ∧ 0 < B2.length) ∨ (0 < A2.length ∧ B2 = []) ∨ A2 = [] := three_ways A2 B2
            rcases hr2 with ⟨h1, h2⟩ | ⟨h1, h2⟩ | h1
            · have r5 : (mid : Int) < (e : Int) := by have := HMD.out; omega
              have r6 : (e : Int) < (b : Int) := by have := HAB.out; omega
              have hml := HM1.out.length
              have hsr := HIH.out mid e b (P ++ M1) A2 B2 Q wr (by have := HAB.out; have := HMD.out; have := HLN.out; have := HK.out; have := HN.out; simp at *; omega) h1 h2 HSA.out.right HSB.out.right (by simpa [List.append_assoc] using HQ3.out) (HC.out.keep _ _ HJ.out HO3.out.only) (by have := HAB.out; have := HMD.out; have := HN.out; have := HLN.out; simp at *; omega) HMD.out HAB.out.2.2.2 (by have := HLN.out; simp at *; omega)
              clear h1 h2 hml
              go_wp2_with fail
              all_goals
                with_reducible refine hsr.mono ?_
                rintro e_ wr ⟨rfl, ⟨M2, hM2, hs4⟩, ho4⟩
                have HM2 := Lib.hid hM2
                have HQ4 := Lib.hid hs4
                have HO4 : Hid (Frm g off len w wr) := HO3.out.trans ho4
                clear hsr hM2 hs4 ho4
                go_wp2_with fail
                all_goals
                  go_end0
                  have hfin := sym_parts HSA.out HSB.out HM1.out HM2.out HSY.out.2.2.1 HSY.out.2.2.2
                  exact ⟨rfl, ⟨M1 ++ M2, by first | exact hfin | simpa [List.append_assoc] using hfin, by simpa [List.append_assoc] using HQ4.out⟩, HO4.out⟩
            · have r5 : (mid : Int) < (e : Int) := by have := HMD.out; omega
              have r6 : ¬ ((e : Int) < (b : Int)) := by have := HAB.out.2.2.2; rw [h2, List.length_nil] at this; omega
              have HM2 : Hid (Stab f (A2 ++ B2) (A2 ++ B2)) := Stab.self (srt_nil_left HSA.out.right HSB.out.right (.inr h2))
              clear h1 h2
              go_wp2_with fail
              all_goals
                go_end0
                have hfin := sym_parts HSA.out HSB.out HM1.out HM2.out HSY.out.2.2.1 HSY.out.2.2.2
                exact ⟨rfl, ⟨M1 ++ (A2 ++ B2), by first | exact hfin | simpa [List.append_assoc] using hfin, by simpa [List.append_assoc] using HQ3.out⟩, HO3.out⟩
            · have r5 : ¬ ((mid : Int) < (e : Int)) := by have := HMD.out; rw [h1, List.length_nil] at this; omega
              have HM2 : Hid (Stab f (A2 ++ B2) (A2 ++ B2)) := Stab.self (srt_nil_left HSA.out.right HSB.out.right (.inl h1))
              clear h1
              go_wp2_with fail
              all_goals
                go_end0
                have hfin := sym_parts HSA.out HSB.out HM1.out HM2.out HSY.out.2.2.1 HSY.out.2.2.2
                exact ⟨rfl, ⟨M1 ++ (A2 ++ B2), by first | exact hfin | simpa [List.append_assoc] using hfin, by simpa [List.append_assoc] using HQ3.out⟩, HO3.out⟩
  · have g1 : (mid : Int) < (m : Int) := by omega
    have g2 : (n : Int) - (b : Int) = (s0 : Int) := by omega
    have g3 : s0 ≤ 1000000000 := by have := HK.out; omega
    have g4 : mid ≤ 1000000000 := by omega
    subst x3
    clear x2
    go_enter Tryz.func204, Tryz.ntmps204
    go_wp2_with fail
    go_loopw [20, 21, 23] (fun sv rv _ wr => ∃ (s r : Nat), sv = .int .i64 s ∧ rv = .int .i64 r ∧ s0 ≤ s ∧ s ≤ r ∧ r ≤ mid ∧ (s0 < s → ∀ x y, (P ++ (A ++ (B ++ Q)))[s - 1]? = some x → (P ++ (A ++ (B ++ Q)))[n - s]? = some y → f x ≤ f y) ∧ (r < mid → ∀ x y, (P ++ (A ++ (B ++ Q)))[r]? = some x → (P ++ (A ++ (B ++ Q)))[n - 1 - r]? = some y → f y < f x) ∧ Below w.heap.size w wr) (fun sv rv _ _ => (intOf rv - intOf sv).toNat)
    case atStart => exact ⟨s0, mid, rfl, rfl, Nat.le_refl _, HK.out.2.1, Nat.le_refl _, fun h => by omega, fun h => by omega, Below.refl _ _⟩
    case round =>
      obtain ⟨s, r, rfl, rfl, hs0, hsr, hr0, hlo, hhi, hbw⟩ := hrel
      have HLO := Lib.hid hlo
      have HHI := Lib.hid hhi
      have HBW := Lib.hid hbw
      have HJW : Hid (J wr) := HC.out.below HJ.out hbw
      have hsq : SeqAt wr g off (P ++ (A ++ (B ++ Q))) := HS.out.kept hbw
      clear hlo hhi hbw
      by_cases hlt : s < r
      · have e1 : (s : Int) < (r : Int) := by omega
        obtain ⟨c, hc⟩ : ∃ c, c = (s + r) / 2 := ⟨_, rfl⟩
        have hcc : ((s : Int) + (r : Int)) / 2 = (c : Int) := by omega
        obtain ⟨d, hd⟩ : ∃ d, d = n - 1 - c := ⟨_, rfl⟩
        have hsc : s ≤ c := by omega
        have hcr : c < r := by omega
        have hdd : (p : Int) - (c : Int) = (d : Int) := by have := HP.out; have := HK.out; have := HN.out; omega
        have hcl : c < len := by have := HK.out; omega
        have hdl : d < len := by have := HK.out; omega
        have hll : (P ++ (A ++ (B ++ Q))).length = len := by have := HLN.out; simp; omega
        obtain ⟨x, hx⟩ : ∃ x, (P ++ (A ++ (B ++ Q)))[c]? = some x := ⟨_, List.getElem?_eq_getElem (by omega)⟩
        obtain ⟨y, hy⟩ : ∃ y, (P ++ (A ++ (B ++ Q)))[d]? = some y := ⟨_, List.getElem?_eq_getElem (by omega)⟩
        have c1 := (hsq.2 c x hx).1
        have c2 := (hsq.2 d y hy).1
        have hca : ∀ u', Calls Tryz.prog 185 #[.int .i32 y, .int .i32 x, .pointer (some ⟨nb, 0, none⟩)] (over wr u') fun e w' => e = .returned (.int .i64 (f y - f x)) ∧ Below (over wr u').heap.size (over wr u') w' :=
          fun u' => HC.out.call y x _ (HC.out.keep _ _ HJW.out ((Only.refl _ _).below (below_over wr u')))
        obtain ⟨q, hqe⟩ : ∃ q, q = f y - f x := ⟨_, rfl⟩
        rw [← hqe] at hca
        have HCA := Lib.hid hca
        have hgl := hsq.1
        have HY := Lib.hid (And.intro hx (And.intro hy (And.intro hd hqe)))
        clear hsq hc hd hx hy hqe hll hca
        by_cases hq0 : q < 0
        · have g7 : decide (q < 0) = true := decide_eq_true hq0
          go_wp2_with fail
          refine wp_region_over (by kernel_rfl) (by kernel_rfl) ?_; (repeat (go_big_quiet_step (((go_at_call 185; exact over_of (HCA.out _)))))); refine wpQuiet_nil ?_; intro w1 hb1
          have HB1 := Lib.hid hb1
          clear hb1 c1 c2
          go_wp2_with fail
          go_roundw
          case rel =>
            obtain ⟨hx, hy, hd, hqe⟩ := HY.out
            refine ⟨s, c, rfl, rfl, hs0, hsc, by omega, HLO.out, fun _ x' y' hx' hy' => ?_, HBW.out.trans (HB1.out.mono HBW.out.size)⟩
            rw [hx] at hx'; rw [← hd, hy] at hy'
            cases hx'; cases hy'
            omega
          case measure => (show ((c : Int) - (s : Int)).toNat < ((r : Int) - (s : Int)).toNat; omega)
        · have g7 : decide (q < 0) = false := decide_eq_false hq0
          go_wp2_with fail
          refine wp_region_over (by kernel_rfl) (by kernel_rfl) ?_; (repeat (go_big_quiet_step (((go_at_call 185; exact over_of (HCA.out _)))))); refine wpQuiet_nil ?_; intro w1 hb1
          have HB1 := Lib.hid hb1
          clear hb1 c1 c2
          go_wp2_with fail
          go_roundw
          case rel =>
            obtain ⟨hx, hy, hd, hqe⟩ := HY.out
            refine ⟨c + 1, r, by go_num, rfl, by omega, by omega, hr0, fun _ x' y' hx' hy' => ?_, HHI.out, HBW.out.trans (HB1.out.mono HBW.out.size)⟩
            rw [Nat.add_sub_cancel, hx] at hx'; rw [show n - (c + 1) = d from by omega, hy] at hy'
            cases hx'; cases hy'
            omega
          case measure => (show ((r : Int) - ((c : Int) + 1)).toNat < ((r : Int) - (s : Int)).toNat; omega)
      · have e1 : ¬ ((s : Int) < (r : Int)) := by omega
        obtain rfl : s = r := by omega
        obtain ⟨e, he⟩ : ∃ e, e = n - s := ⟨_, rfl⟩
        have hes : (n : Int) - (s : Int) = (e : Int) := by have := HK.out; have := HN.out; omega
        obtain ⟨A1, A2, B1, B2, hA12, hB12, la1, la2, lb1, lb2, hc1, hc2⟩ : ∃ A1 A2 B1 B2 : List Int, A = A1 ++ A2 ∧ B = B1 ++ B2 ∧ a + A1.length = s ∧ s + A2.length = m ∧ m + B1.length = e ∧ e + B2.length = b ∧
            (∀ x y, A2.head? = some x → B1.getLast? = some y → f y < f x) ∧ (∀ x y, A1.getLast? = some x → B2.head? = some y → f x ≤ f y) :=
          sym_split (P := P) (Q := Q) HLN.out HN.out he ⟨HK.out.1, HK.out.2.1, HK.out.2.2.1, HK.out.2.2.2.1, HK.out.2.2.2.2.1, by have := HK.out; omega, by have := HK.out; omega⟩ hs0 hr0 HLO.out HHI.out
        have HSY := Lib.hid (And.intro hA12 (And.intro hB12 (And.intro hc1 hc2)))
        have HAB := Lib.hid (And.intro la1 (And.intro la2 (And.intro lb1 lb2)))
        have hO0 : Frm g off len w wr := Frm.of_below (HBW.out.mono (by have := HS.out.1; omega))
        have hmd : mid + A2.length = e := by have := HN.out; omega
        have HMD := Lib.hid hmd
        have hel : e ≤ 1000000000 := by omega
        have hsl : s ≤ 1000000000 := by omega
        subst hA12
        subst hB12
        have hsq1 : SeqAt wr g off ((P ++ A1) ++ (A2 ++ (B1 ++ (B2 ++ Q)))) := by simpa [List.append_assoc] using hsq
        clear hsq hc1 hc2 he hmd
        have hrot : (0 < A2.length ∧ 0 < B1.length) ∨ (0 < A2.length ∧ B1 = []) ∨ A2 = [] := by
          cases A2 with
          | nil => exact .inr (.inr rfl)
          | cons _ _ =>
            cases B1 with
            | nil => exact .inr (.inl ⟨by simp, rfl⟩)
            | cons _ _ => exact .inl ⟨by simp, by simp⟩
        rcases hrot with ⟨h1, h2⟩ | ⟨h1, h2⟩ | h1
        · have r1 : (s : Int) < (m : Int) := by omega
          have r2 : (m : Int) < (e : Int) := by omega
          have hro := rotate_any (.func (.func 185) #[] #[.pointer (some ⟨nb, 0, none⟩)]) g off cap s m e (P ++ A1) A2 B1 (B2 ++ Q) wr hsq1 (by have := HLN.out; simp; omega) la2 lb1 h1 h2 len (by have := HLN.out; simp at *; omega) hl
          have HO0 := Lib.hid hO0
          clear hsq1 hO0 h1 h2 la1 la2 lb1 lb2
          go_wp2_with fail
          with_reducible refine hro.mono ?_
          rintro e_ wr ⟨rfl, hs2, ho2⟩
          have HQ2 : Hid (SeqAt wr g off (P ++ ((A1 ++ B1) ++ (A2 ++ (B2 ++ Q))))) := by show SeqAt _ _ _ _; simpa [List.append_assoc] using hs2
          have HO2 : Hid (Frm g off len w wr) := HO0.out.trans ho2
          clear hro hs2 ho2 r1 r2
          have hr1 : (0 < A1.length ∧ 0 < B1.length) ∨ (0 < A1.length ∧ B1 = []) ∨ A1 = [] := three_ways A1 B1
          rcases hr1 with ⟨h1, h2⟩ | ⟨h1, h2⟩ | h1
          · have r3 : (a : Int) < (s : Int) := by have := HAB.out; omega
            have r4 : (s : Int) < (mid : Int) := by have := HAB.out; have := HMD.out; omega
            have hsr := HIH.out a s mid P A1 B1 (A2 ++ (B2 ++ Q)) wr (by have := HK.out; have := HAB.out; have := HMD.out; have := HLN.out; simp at *; omega) h1 h2 HSA.out.left HSB.out.left (by simpa [List.append_assoc] using HQ2.out) (HC.out.keep _ _ HJ.out HO2.out.only) HLN.out.1 HAB.out.1 (by have := HAB.out; have := HMD.out; have := HN.out; omega) (by have := HLN.out; simp at *; omega)
            clear h1 h2
            go_wp2_with fail
            with_reducible refine hsr.mono ?_
            rintro e_ wr ⟨rfl, ⟨M1, hM1, hs3⟩, ho3⟩
            have HM1 := Lib.hid hM1
            have HQ3 : Hid (SeqAt wr g off (P ++ (M1 ++ (A2 ++ (B2 ++ Q))))) := hs3
            have HO3 : Hid (Frm g off len w wr) := HO2.out.trans ho3
            clear hsr hM1 hs3 ho3 r3 r4
            have hr2 : (0 < A2.length ∧ 0 < B2.length) ∨ (0 < A2.length ∧ B2 = []) ∨ A2 = [] := three_ways A2 B2
            rcases hr2 with ⟨h1, h2⟩ | ⟨h1, h2⟩ | h1
            · have r5 : (mid : Int) < (e : Int) := by have := HMD.out; omega
              have r6 : (e : Int) < (b : Int) := by have := HAB.out; omega
              have hml := HM1.out.length
              have hsr := HIH.out mid e b (P ++ M1) A2 B2 Q wr (by have := HAB.out; have := HMD.out; have := HLN.out; have := HK.out; have := HN.out; simp at *; omega) h1 h2 HSA.out.right HSB.out.right (by simpa [List.append_assoc] using HQ3.out) (HC.out.keep _ _ HJ.out HO3.out.only) (by have := HAB.out; have := HMD.out; have := HN.out; have := HLN.out; simp at *; omega) HMD.out HAB.out.2.2.2 (by have := HLN.out; simp at *; omega)
              clear h1 h2 hml
              go_wp2_with fail
              all_goals
                with_reducible refine hsr.mono ?_
                rintro e_ wr ⟨rfl, ⟨M2, hM2, hs4⟩, ho4⟩
                have HM2 := Lib.hid hM2
                have HQ4 := Lib.hid hs4
                have HO4 : Hid (Frm g off len w wr) := HO3.out.trans ho4
                clear hsr hM2 hs4 ho4
                go_wp2_with fail
                all_goals
                  go_end0
                  have hfin := sym_parts HSA.out HSB.out HM1.out HM2.out HSY.out.2.2.1 HSY.out.2.2.2
                  exact ⟨rfl, ⟨M1 ++ M2, by first | exact hfin | simpa [List.append_assoc] using hfin, by simpa [List.append_assoc] using HQ4.out⟩, HO4.out⟩
            · have r5 : (mid : Int) < (e : Int) := by have := HMD.out; omega
              have r6 : ¬ ((e : Int) < (b : Int)) := by have := HAB.out.2.2.2; rw [h2, List.length_nil] at this; omega
              have HM2 : Hid (Stab f (A2 ++ B2) (A2 ++ B2)) := Stab.self (srt_nil_left HSA.out.right HSB.out.right (.inr h2))
              clear h1 h2
              go_wp2_with fail
              all_goals
                go_end0
                have hfin := sym_parts HSA.out HSB.out HM1.out HM2.out HSY.out.2.2.1 HSY.out.2.2.2
                exact ⟨rfl, ⟨M1 ++ (A2 ++ B2), by first | exact hfin | simpa [List.append_assoc] using hfin, by simpa [List.append_assoc] using HQ3.out⟩, HO3.out⟩
            · have r5 : ¬ ((mid : Int) < (e : Int)) := by have := HMD.out; rw [h1, List.length_nil] at this; omega
              have HM2 : Hid (Stab f (A2 ++ B2) (A2 ++ B2)) := Stab.self (srt_nil_left HSA.out.right HSB.out.right (.inl h1))
              clear h1
              go_wp2_with fail
              all_goals
                go_end0
                have hfin := sym_parts HSA.out HSB.out HM1.out HM2.out HSY.out.2.2.1 HSY.out.2.2.2
                exact ⟨rfl, ⟨M1 ++ (A2 ++ B2), by first | exact hfin | simpa [List.append_assoc] using hfin, by simpa [List.append_assoc] using HQ3.out⟩, HO3.out⟩
          · have r3 : (a : Int) < (s : Int) := by have := HAB.out; omega
            have r4 : ¬ ((s : Int) < (mid : Int)) := by
              have h3 : B1.length = 0 := by rw [h2]; rfl
              have := HAB.out
              have := HMD.out
              omega
            obtain ⟨M1, hm1⟩ : ∃ M1, M1 = A1 ++ B1 := ⟨_, rfl⟩
            have HM1 : Hid (Stab f (A1 ++ B1) M1) := by show Stab _ _ _; rw [hm1]; exact Stab.self (srt_nil_left HSA.out.left HSB.out.left (.inr h2))
            have HQ3 : Hid (SeqAt wr g off (P ++ (M1 ++ (A2 ++ (B2 ++ Q))))) := by show SeqAt _ _ _ _; rw [hm1]; exact HQ2.out
            have HO3 := HO2
            clear hm1 h1 h2
            have hr2 : (0 < A2.length ∧ 0 < B2.length) ∨ (0 < A2.length ∧ B2 = []) ∨ A2 = [] := three_ways A2 B2
            rcases hr2 with ⟨h1, h2⟩ | ⟨h1, h2⟩ | h1
            · have r5 : (mid : Int) < (e : Int) := by have := HMD.out; omega
              have r6 : (e : Int) < (b : Int) := by have := HAB.out; omega
              have hml := HM1.out.length
              have hsr := HIH.out mid e b (P ++ M1) A2 B2 Q wr (by have := HAB.out; have := HMD.out; have := HLN.out; have := HK.out; have := HN.out; simp at *; omega) h1 h2 HSA.out.right HSB.out.right (by simpa [List.append_assoc] using HQ3.out) (HC.out.keep _ _ HJ.out HO3.out.only) (by have := HAB.out; have := HMD.out; have := HN.out; have := HLN.out; simp at *; omega) HMD.out HAB.out.2.2.2 (by have := HLN.out; simp at *; omega)
              clear h1 h2 hml
              go_wp2_with fail
              all_goals
                with_reducible refine hsr.mono ?_
                rintro e_ wr ⟨rfl, ⟨M2, hM2, hs4⟩, ho4⟩
                have HM2 := Lib.hid hM2
                have HQ4 := Lib.hid hs4
                have HO4 : Hid (Frm g off len w wr) := HO3.out.trans ho4
                clear hsr hM2 hs4 ho4
                go_wp2_with fail
                all_goals
                  go_end0
                  have hfin := sym_parts HSA.out HSB.out HM1.out HM2.out HSY.out.2.2.1 HSY.out.2.2.2
                  exact ⟨rfl, ⟨M1 ++ M2, by first | exact hfin | simpa [List.append_assoc] using hfin, by simpa [List.append_assoc] using HQ4.out⟩, HO4.out⟩
            · have r5 : (mid : Int) < (e : Int) := by have := HMD.out; omega
              have r6 : ¬ ((e : Int) < (b : Int)) := by have := HAB.out.2.2.2; rw [h2, List.length_nil] at this; omega
              have HM2 : Hid (Stab f (A2 ++ B2) (A2 ++ B2)) := Stab.self (srt_nil_left HSA.out.right HSB.out.right (.inr h2))
              clear h1 h2
              go_wp2_with fail
              all_goals
                go_end0
                have hfin := sym_parts HSA.out HSB.out HM1.out HM2.out HSY.out.2.2.1 HSY.out.2.2.2
                exact ⟨rfl, ⟨M1 ++ (A2 ++ B2), by first | exact hfin | simpa [List.append_assoc] using hfin, by simpa [List.append_assoc] using HQ3.out⟩, HO3.out⟩
            · have r5 : ¬ ((mid : Int) < (e : Int)) := by have := HMD.out; rw [h1, List.length_nil] at this; omega
              have HM2 : Hid (Stab f (A2 ++ B2) (A2 ++ B2)) := Stab.self (srt_nil_left HSA.out.right HSB.out.right (.inl h1))
              clear h1
              go_wp2_with fail
              all_goals
                go_end0
                have hfin := sym_parts HSA.out HSB.out HM1.out HM2.out HSY.out.2.2.1 HSY.out.2.2.2
                exact ⟨rfl, ⟨M1 ++ (A2 ++ B2), by first | exact hfin | simpa [List.append_assoc] using hfin, by simpa [List.append_assoc] using HQ3.out⟩, HO3.out⟩
          · have r3 : ¬ ((a : Int) < (s : Int)) := by have := HAB.out; rw [h1, List.length_nil] at this; omega
            obtain ⟨M1, hm1⟩ : ∃ M1, M1 = A1 ++ B1 := ⟨_, rfl⟩
            have HM1 : Hid (Stab f (A1 ++ B1) M1) := by show Stab _ _ _; rw [hm1]; exact Stab.self (srt_nil_left HSA.out.left HSB.out.left (.inl h1))
            have HQ3 : Hid (SeqAt wr g off (P ++ (M1 ++ (A2 ++ (B2 ++ Q))))) := by show SeqAt _ _ _ _; rw [hm1]; exact HQ2.out
            have HO3 := HO2
            clear hm1 h1
            have hr2 : (0 < A2.length ∧ 0 < B2.length) ∨ (0 < A2.length ∧ B2 = []) ∨ A2 = [] := three_ways A2 B2
            rcases hr2 with ⟨h1, h2⟩ | ⟨h1, h2⟩ | h1
            · have r5 : (mid : Int) < (e : Int) := by have := HMD.out; omega
              have r6 : (e : Int) < (b : Int) := by have := HAB.out; omega
              have hml := HM1.out.length
              have hsr := HIH.out mid e b (P ++ M1) A2 B2 Q wr (by have := HAB.out; have := HMD.out; have := HLN.out; have := HK.out; have := HN.out; simp at *; omega) h1 h2 HSA.out.right HSB.out.right (by simpa [List.append_assoc] using HQ3.out) (HC.out.keep _ _ HJ.out HO3.out.only) (by have := HAB.out; have := HMD.out; have := HN.out; have := HLN.out; simp at *; omega) HMD.out HAB.out.2.2.2 (by have := HLN.out; simp at *; omega)
              clear h1 h2 hml
              go_wp2_with fail
              all_goals
                with_reducible refine hsr.mono ?_
                rintro e_ wr ⟨rfl, ⟨M2, hM2, hs4⟩, ho4⟩
                have HM2 := Lib.hid hM2
                have HQ4 := Lib.hid hs4
                have HO4 : Hid (Frm g off len w wr) := HO3.out.trans ho4
                clear hsr hM2 hs4 ho4
                go_wp2_with fail
                all_goals
                  go_end0
                  have hfin := sym_parts HSA.out HSB.out HM1.out HM2.out HSY.out.2.2.1 HSY.out.2.2.2
                  exact ⟨rfl, ⟨M1 ++ M2, by first | exact hfin | simpa [List.append_assoc] using hfin, by simpa [List.append_assoc] using HQ4.out⟩, HO4.out⟩
            · have r5 : (mid : Int) < (e : Int) := by have := HMD.out; omega
              have r6 : ¬ ((e : Int) < (b : Int)) := by have := HAB.out.2.2.2; rw [h2, List.length_nil] at this; omega
              have HM2 : Hid (Stab f (A2 ++ B2) (A2 ++ B2)) := Stab.self (srt_nil_left HSA.out.right HSB.out.right (.inr h2))
              clear h1 h2
              go_wp2_with fail
              all_goals
                go_end0
                have hfin := sym_parts HSA.out HSB.out HM1.out HM2.out HSY.out.2.2.1 HSY.out.2.2.2
                exact ⟨rfl, ⟨M1 ++ (A2 ++ B2), by first | exact hfin | simpa [List.append_assoc] using hfin, by simpa [List.append_assoc] using HQ3.out⟩, HO3.out⟩
            · have r5 : ¬ ((mid : Int) < (e : Int)) := by have := HMD.out; rw [h1, List.length_nil] at this; omega
              have HM2 : Hid (Stab f (A2 ++ B2) (A2 ++ B2)) := Stab.self (srt_nil_left HSA.out.right HSB.out.right (.inl h1))
              clear h1
              go_wp2_with fail
              all_goals
                go_end0
                have hfin := sym_parts HSA.out HSB.out HM1.out HM2.out HSY.out.2.2.1 HSY.out.2.2.2
                exact ⟨rfl, ⟨M1 ++ (A2 ++ B2), by first | exact hfin | simpa [List.append_assoc] using hfin, by simpa [List.append_assoc] using HQ3.out⟩, HO3.out⟩
        · have r1 : (s : Int) < (m : Int) := by omega
          have r2 : ¬ ((m : Int) < (e : Int)) := by rw [h2, List.length_nil] at lb1; omega
          have HQ2 : Hid (SeqAt wr g off (P ++ ((A1 ++ B1) ++ (A2 ++ (B2 ++ Q))))) := by show SeqAt _ _ _ _; rw [h2] at hsq1 ⊢; simpa [List.append_assoc] using hsq1
          have HO2 : Hid (Frm g off len w wr) := hO0
          clear hsq1 hO0 h1 h2 la1 la2 lb1 lb2
          have hr1 : (0 < A1.length ∧ 0 < B1.length) ∨ (0 < A1.length ∧ B1 = []) ∨ A1 = [] := three_ways A1 B1
          rcases hr1 with ⟨h1, h2⟩ | ⟨h1, h2⟩ | h1
          · have r3 : (a : Int) < (s : Int) := by have := HAB.out; omega
            have r4 : (s : Int) < (mid : Int) := by have := HAB.out; have := HMD.out; omega
            have hsr := HIH.out a s mid P A1 B1 (A2 ++ (B2 ++ Q)) wr (by have := HK.out; have := HAB.out; have := HMD.out; have := HLN.out; simp at *; omega) h1 h2 HSA.out.left HSB.out.left (by simpa [List.append_assoc] using HQ2.out) (HC.out.keep _ _ HJ.out HO2.out.only) HLN.out.1 HAB.out.1 (by have := HAB.out; have := HMD.out; have := HN.out; omega) (by have := HLN.out; simp at *; omega)
            clear h1 h2
            go_wp2_with fail
            with_reducible refine hsr.mono ?_
            rintro e_ wr ⟨rfl, ⟨M1, hM1, hs3⟩, ho3⟩
            have HM1 := Lib.hid hM1
            have HQ3 : Hid (SeqAt wr g off (P ++ (M1 ++ (A2 ++ (B2 ++ Q))))) := hs3
            have HO3 : Hid (Frm g off len w wr) := HO2.out.trans ho3
            clear hsr hM1 hs3 ho3 r3 r4
            have hr2 : (0 < A2.length ∧ 0 < B2.length) ∨ (0 < A2.length ∧ B2 = []) ∨ A2 = [] := three_ways A2 B2
            rcases hr2 with ⟨h1, h2⟩ | ⟨h1, h2⟩ | h1
            · have r5 : (mid : Int) < (e : Int) := by have := HMD.out; omega
              have r6 : (e : Int) < (b : Int) := by have := HAB.out; omega
              have hml := HM1.out.length
              have hsr := HIH.out mid e b (P ++ M1) A2 B2 Q wr (by have := HAB.out; have := HMD.out; have := HLN.out; have := HK.out; have := HN.out; simp at *; omega) h1 h2 HSA.out.right HSB.out.right (by simpa [List.append_assoc] using HQ3.out) (HC.out.keep _ _ HJ.out HO3.out.only) (by have := HAB.out; have := HMD.out; have := HN.out; have := HLN.out; simp at *; omega) HMD.out HAB.out.2.2.2 (by have := HLN.out; simp at *; omega)
              clear h1 h2 hml
              go_wp2_with fail
              all_goals
                with_reducible refine hsr.mono ?_
                rintro e_ wr ⟨rfl, ⟨M2, hM2, hs4⟩, ho4⟩
                have HM2 := Lib.hid hM2
                have HQ4 := Lib.hid hs4
                have HO4 : Hid (Frm g off len w wr) := HO3.out.trans ho4
                clear hsr hM2 hs4 ho4
                go_wp2_with fail
                all_goals
                  go_end0
                  have hfin := sym_parts HSA.out HSB.out HM1.out HM2.out HSY.out.2.2.1 HSY.out.2.2.2
                  exact ⟨rfl, ⟨M1 ++ M2, by first | exact hfin | simpa [List.append_assoc] using hfin, by simpa [List.append_assoc] using HQ4.out⟩, HO4.out⟩
            · have r5 : (mid : Int) < (e : Int) := by have := HMD.out; omega
              have r6 : ¬ ((e : Int) < (b : Int)) := by have := HAB.out.2.2.2; rw [h2, List.length_nil] at this; omega
              have HM2 : Hid (Stab f (A2 ++ B2) (A2 ++ B2)) := Stab.self (srt_nil_left HSA.out.right HSB.out.right (.inr h2))
              clear h1 h2
              go_wp2_with fail
              all_goals
                go_end0
                have hfin := sym_parts HSA.out HSB.out HM1.out HM2.out HSY.out.2.2.1 HSY.out.2.2.2
                exact ⟨rfl, ⟨M1 ++ (A2 ++ B2), by first | exact hfin | simpa [List.append_assoc] using hfin, by simpa [List.append_assoc] using HQ3.out⟩, HO3.out⟩
            · have r5 : ¬ ((mid : Int) < (e : Int)) := by have := HMD.out; rw [h1, List.length_nil] at this; omega
              have HM2 : Hid (Stab f (A2 ++ B2) (A2 ++ B2)) := Stab.self (srt_nil_left HSA.out.right HSB.out.right (.inl h1))
              clear h1
              go_wp2_with fail
              all_goals
                go_end0
                have hfin := sym_parts HSA.out HSB.out HM1.out HM2.out HSY.out.2.2.1 HSY.out.2.2.2
                exact ⟨rfl, ⟨M1 ++ (A2 ++ B2), by first | exact hfin | simpa [List.append_assoc] using hfin, by simpa [List.append_assoc] using HQ3.out⟩, HO3.out⟩
          · have r3 : (a : Int) < (s : Int) := by have := HAB.out; omega
            have r4 : ¬ ((s : Int) < (mid : Int)) := by
              have h3 : B1.length = 0 := by rw [h2]; rfl
              have := HAB.out
              have := HMD.out
              omega
            obtain ⟨M1, hm1⟩ : ∃ M1, M1 = A1 ++ B1 := ⟨_, rfl⟩
            have HM1 : Hid (Stab f (A1 ++ B1) M1) := by show Stab _ _ _; rw [hm1]; exact Stab.self (srt_nil_left HSA.out.left HSB.out.left (.inr h2))
            have HQ3 : Hid (SeqAt wr g off (P ++ (M1 ++ (A2 ++ (B2 ++ Q))))) := by show SeqAt _ _ _ _; rw [hm1]; exact HQ2.out
            have HO3 := HO2
            clear hm1 h1 h2
            have hr2 : (0 < A2.length ∧ 0 < B2.length) ∨ (0 < A2.length ∧ B2 = []) ∨ A2 = [] := three_ways A2 B2
            rcases hr2 with ⟨h1, h2⟩ | ⟨h1, h2⟩ | h1
            · have r5 : (mid : Int) < (e : Int) := by have := HMD.out; omega
              have r6 : (e : Int) < (b : Int) := by have := HAB.out; omega
              have hml := HM1.out.length
              have hsr := HIH.out mid e b (P ++ M1) A2 B2 Q wr (by have := HAB.out; have := HMD.out; have := HLN.out; have := HK.out; have := HN.out; simp at *; omega) h1 h2 HSA.out.right HSB.out.right (by simpa [List.append_assoc] using HQ3.out) (HC.out.keep _ _ HJ.out HO3.out.only) (by have := HAB.out; have := HMD.out; have := HN.out; have := HLN.out; simp at *; omega) HMD.out HAB.out.2.2.2 (by have := HLN.out; simp at *; omega)
              clear h1 h2 hml
              go_wp2_with fail
              all_goals
                with_reducible refine hsr.mono ?_
                rintro e_ wr ⟨rfl, ⟨M2, hM2, hs4⟩, ho4⟩
                have HM2 := Lib.hid hM2
                have HQ4 := Lib.hid hs4
                have HO4 : Hid (Frm g off len w wr) := HO3.out.trans ho4
                clear hsr hM2 hs4 ho4
                go_wp2_with fail
                all_goals
                  go_end0
                  have hfin := sym_parts HSA.out HSB.out HM1.out HM2.out HSY.out.2.2.1 HSY.out.2.2.2
                  exact ⟨rfl, ⟨M1 ++ M2, by first | exact hfin | simpa [List.append_assoc] using hfin, by simpa [List.append_assoc] using HQ4.out⟩, HO4.out⟩
            · have r5 : (mid : Int) < (e : Int) := by have := HMD.out; omega
              have r6 : ¬ ((e : Int) < (b : Int)) := by have := HAB.out.2.2.2; rw [h2, List.length_nil] at this; omega
              have HM2 : Hid (Stab f (A2 ++ B2) (A2 ++ B2)) := Stab.self (srt_nil_left HSA.out.right HSB.out.right (.inr h2))
              clear h1 h2
              go_wp2_with fail
              all_goals
                go_end0
                have hfin := sym_parts HSA.out HSB.out HM1.out HM2.out HSY.out.2.2.1 HSY.out.2.2.2
                exact ⟨rfl, ⟨M1 ++ (A2 ++ B2), by first | exact hfin | simpa [List.append_assoc] using hfin, by simpa [List.append_assoc] using HQ3.out⟩, HO3.out⟩
            · have r5 : ¬ ((mid : Int) < (e : Int)) := by have := HMD.out; rw [h1, List.length_nil] at this; omega
              have HM2 : Hid (Stab f (A2 ++ B2) (A2 ++ B2)) := Stab.self (srt_nil_left HSA.out.right HSB.out.right (.inl h1))
              clear h1
              go_wp2_with fail
              all_goals
                go_end0
                have hfin := sym_parts HSA.out HSB.out HM1.out HM2.out HSY.out.2.2.1 HSY.out.2.2.2
                exact ⟨rfl, ⟨M1 ++ (A2 ++ B2), by first | exact hfin | simpa [List.append_assoc] using hfin, by simpa [List.append_assoc] using HQ3.out⟩, HO3.out⟩
          · have r3 : ¬ ((a : Int) < (s : Int)) := by have := HAB.out; rw [h1, List.length_nil] at this; omega
            obtain ⟨M1, hm1⟩ : ∃ M1, M1 = A1 ++ B1 := ⟨_, rfl⟩
            have HM1 : Hid (Stab f (A1 ++ B1) M1) := by show Stab _ _ _; rw [hm1]; exact Stab.self (srt_nil_left HSA.out.left HSB.out.left (.inl h1))
            have HQ3 : Hid (SeqAt wr g off (P ++ (M1 ++ (A2 ++ (B2 ++ Q))))) := by show SeqAt _ _ _ _; rw [hm1]; exact HQ2.out
            have HO3 := HO2
            clear hm1 h1
            have hr2 : (0 < A2.length ∧ 0 < B2.length) ∨ (0 < A2.length ∧ B2 = []) ∨ A2 = [] := three_ways A2 B2
            rcases hr2 with ⟨h1, h2⟩ | ⟨h1, h2⟩ | h1
            · have r5 : (mid : Int) < (e : Int) := by have := HMD.out; omega
              have r6 : (e : Int) < (b : Int) := by have := HAB.out; omega
              have hml := HM1.out.length
              have hsr := HIH.out mid e b (P ++ M1) A2 B2 Q wr (by have := HAB.out; have := HMD.out; have := HLN.out; have := HK.out; have := HN.out; simp at *; omega) h1 h2 HSA.out.right HSB.out.right (by simpa [List.append_assoc] using HQ3.out) (HC.out.keep _ _ HJ.out HO3.out.only) (by have := HAB.out; have := HMD.out; have := HN.out; have := HLN.out; simp at *; omega) HMD.out HAB.out.2.2.2 (by have := HLN.out; simp at *; omega)
              clear h1 h2 hml
              go_wp2_with fail
              all_goals
                with_reducible refine hsr.mono ?_
                rintro e_ wr ⟨rfl, ⟨M2, hM2, hs4⟩, ho4⟩
                have HM2 := Lib.hid hM2
                have HQ4 := Lib.hid hs4
                have HO4 : Hid (Frm g off len w wr) := HO3.out.trans ho4
                clear hsr hM2 hs4 ho4
                go_wp2_with fail
                all_goals
                  go_end0
                  have hfin := sym_parts HSA.out HSB.out HM1.out HM2.out HSY.out.2.2.1 HSY.out.2.2.2
                  exact ⟨rfl, ⟨M1 ++ M2, by first | exact hfin | simpa [List.append_assoc] using hfin, by simpa [List.append_assoc] using HQ4.out⟩, HO4.out⟩
            · have r5 : (mid : Int) < (e : Int) := by have := HMD.out; omega
              have r6 : ¬ ((e : Int) < (b : Int)) := by have := HAB.out.2.2.2; rw [h2, List.length_nil] at this; omega
              have HM2 : Hid (Stab f (A2 ++ B2) (A2 ++ B2)) := Stab.self (srt_nil_left HSA.out.right HSB.out.right (.inr h2))
              clear h1 h2
              go_wp2_with fail
              all_goals
                go_end0
                have hfin := sym_parts HSA.out HSB.out HM1.out HM2.out HSY.out.2.2.1 HSY.out.2.2.2
                exact ⟨rfl, ⟨M1 ++ (A2 ++ B2), by first | exact hfin | simpa [List.append_assoc] using hfin, by simpa [List.append_assoc] using HQ3.out⟩, HO3.out⟩
            · have r5 : ¬ ((mid : Int) < (e : Int)) := by have := HMD.out; rw [h1, List.length_nil] at this; omega
              have HM2 : Hid (Stab f (A2 ++ B2) (A2 ++ B2)) := Stab.self (srt_nil_left HSA.out.right HSB.out.right (.inl h1))
              clear h1
              go_wp2_with fail
              all_goals
                go_end0
                have hfin := sym_parts HSA.out HSB.out HM1.out HM2.out HSY.out.2.2.1 HSY.out.2.2.2
                exact ⟨rfl, ⟨M1 ++ (A2 ++ B2), by first | exact hfin | simpa [List.append_assoc] using hfin, by simpa [List.append_assoc] using HQ3.out⟩, HO3.out⟩
        · have r1 : ¬ ((s : Int) < (m : Int)) := by rw [h1, List.length_nil] at la2; omega
          have HQ2 : Hid (SeqAt wr g off (P ++ ((A1 ++ B1) ++ (A2 ++ (B2 ++ Q))))) := by show SeqAt _ _ _ _; rw [h1] at hsq1 ⊢; simpa [List.append_assoc] using hsq1
          have HO2 : Hid (Frm g off len w wr) := hO0
          clear hsq1 hO0 h1 la1 la2 lb1 lb2
          have hr1 : (0 < A1.length ∧ 0 < B1.length) ∨ (0 < A1.length ∧ B1 = []) ∨ A1 = [] := three_ways A1 B1
          rcases hr1 with ⟨h1, h2⟩ | ⟨h1, h2⟩ | h1
          · have r3 : (a : Int) < (s : Int) := by have := HAB.out; omega
            have r4 : (s : Int) < (mid : Int) := by have := HAB.out; have := HMD.out; omega
            have hsr := HIH.out a s mid P A1 B1 (A2 ++ (B2 ++ Q)) wr (by have := HK.out; have := HAB.out; have := HMD.out; have := HLN.out; simp at *; omega) h1 h2 HSA.out.left HSB.out.left (by simpa [List.append_assoc] using HQ2.out) (HC.out.keep _ _ HJ.out HO2.out.only) HLN.out.1 HAB.out.1 (by have := HAB.out; have := HMD.out; have := HN.out; omega) (by have := HLN.out; simp at *; omega)
            clear h1 h2
            go_wp2_with fail
            with_reducible refine hsr.mono ?_
            rintro e_ wr ⟨rfl, ⟨M1, hM1, hs3⟩, ho3⟩
            have HM1 := Lib.hid hM1
            have HQ3 : Hid (SeqAt wr g off (P ++ (M1 ++ (A2 ++ (B2 ++ Q))))) := hs3
            have HO3 : Hid (Frm g off len w wr) := HO2.out.trans ho3
            clear hsr hM1 hs3 ho3 r3 r4
            have hr2 : (0 < A2.length ∧ 0 < B2.length) ∨ (0 < A2.length ∧ B2 = []) ∨ A2 = [] := three_ways A2 B2
            rcases hr2 with ⟨h1, h2⟩ | ⟨h1, h2⟩ | h1
            · have r5 : (mid : Int) < (e : Int) := by have := HMD.out; omega
              have r6 : (e : Int) < (b : Int) := by have := HAB.out; omega
              have hml := HM1.out.length
              have hsr := HIH.out mid e b (P ++ M1) A2 B2 Q wr (by have := HAB.out; have := HMD.out; have := HLN.out; have := HK.out; have := HN.out; simp at *; omega) h1 h2 HSA.out.right HSB.out.right (by simpa [List.append_assoc] using HQ3.out) (HC.out.keep _ _ HJ.out HO3.out.only) (by have := HAB.out; have := HMD.out; have := HN.out; have := HLN.out; simp at *; omega) HMD.out HAB.out.2.2.2 (by have := HLN.out; simp at *; omega)
              clear h1 h2 hml
              go_wp2_with fail
              all_goals
                with_reducible refine hsr.mono ?_
                rintro e_ wr ⟨rfl, ⟨M2, hM2, hs4⟩, ho4⟩
                have HM2 := Lib.hid hM2
                have HQ4 := Lib.hid hs4
                have HO4 : Hid (Frm g off len w wr) := HO3.out.trans ho4
                clear hsr hM2 hs4 ho4
                go_wp2_with fail
                all_goals
                  go_end0
                  have hfin := sym_parts HSA.out HSB.out HM1.out HM2.out HSY.out.2.2.1 HSY.out.2.2.2
                  exact ⟨rfl, ⟨M1 ++ M2, by first | exact hfin | simpa [List.append_assoc] using hfin, by simpa [List.append_assoc] using HQ4.out⟩, HO4.out⟩
            · have r5 : (mid : Int) < (e : Int) := by have := HMD.out; omega
              have r6 : ¬ ((e : Int) < (b : Int)) := by have := HAB.out.2.2.2; rw [h2, List.length_nil] at this; omega
              have HM2 : Hid (Stab f (A2 ++ B2) (A2 ++ B2)) := Stab.self (srt_nil_left HSA.out.right HSB.out.right (.inr h2))
              clear h1 h2
              go_wp2_with fail
              all_goals
                go_end0
                have hfin := sym_parts HSA.out HSB.out HM1.out HM2.out HSY.out.2.2.1 HSY.out.2.2.2
                exact ⟨rfl, ⟨M1 ++ (A2 ++ B2), by first | exact hfin | simpa [List.append_assoc] using hfin, by simpa [List.append_assoc] using HQ3.out⟩, HO3.out⟩
            · have r5 : ¬ ((mid : Int) < (e : Int)) := by have := HMD.out; rw [h1, List.length_nil] at this; omega
              have HM2 : Hid (Stab f (A2 ++ B2) (A2 ++ B2)) := Stab.self (srt_nil_left HSA.out.right HSB.out.right (.inl h1))
              clear h1
              go_wp2_with fail
              all_goals
                go_end0
                have hfin := sym_parts HSA.out HSB.out HM1.out HM2.out HSY.out.2.2.1 HSY.out.2.2.2
                exact ⟨rfl, ⟨M1 ++ (A2 ++ B2), by first | exact hfin | simpa [List.append_assoc] using hfin, by simpa [List.append_assoc] using HQ3.out⟩, HO3.out⟩
          · have r3 : (a : Int) < (s : Int) := by have := HAB.out; omega
            have r4 : ¬ ((s : Int) < (mid : Int)) := by
              have h3 : B1.length = 0 := by rw [h2]; rfl
              have := HAB.out
              have := HMD.out
              omega
            obtain ⟨M1, hm1⟩ : ∃ M1, M1 = A1 ++ B1 := ⟨_, rfl⟩
            have HM1 : Hid (Stab f (A1 ++ B1) M1) := by show Stab _ _ _; rw [hm1]; exact Stab.self (srt_nil_left HSA.out.left HSB.out.left (.inr h2))
            have HQ3 : Hid (SeqAt wr g off (P ++ (M1 ++ (A2 ++ (B2 ++ Q))))) := by show SeqAt _ _ _ _; rw [hm1]; exact HQ2.out
            have HO3 := HO2
            clear hm1 h1 h2
            have hr2 : (0 < A2.length ∧ 0 < B2.length) ∨ (0 < A2.length ∧ B2 = []) ∨ A2 = [] := three_ways A2 B2
            rcases hr2 with ⟨h1, h2⟩ | ⟨h1, h2⟩ | h1
            · have r5 : (mid : Int) < (e : Int) := by have := HMD.out; omega
              have r6 : (e : Int) < (b : Int) := by have := HAB.out; omega
              have hml := HM1.out.length
              have hsr := HIH.out mid e b (P ++ M1) A2 B2 Q wr (by have := HAB.out; have := HMD.out; have := HLN.out; have := HK.out; have := HN.out; simp at *; omega) h1 h2 HSA.out.right HSB.out.right (by simpa [List.append_assoc] using HQ3.out) (HC.out.keep _ _ HJ.out HO3.out.only) (by have := HAB.out; have := HMD.out; have := HN.out; have := HLN.out; simp at *; omega) HMD.out HAB.out.2.2.2 (by have := HLN.out; simp at *; omega)
              clear h1 h2 hml
              go_wp2_with fail
              all_goals
                with_reducible refine hsr.mono ?_
                rintro e_ wr ⟨rfl, ⟨M2, hM2, hs4⟩, ho4⟩
                have HM2 := Lib.hid hM2
                have HQ4 := Lib.hid hs4
                have HO4 : Hid (Frm g off len w wr) := HO3.out.trans ho4
                clear hsr hM2 hs4 ho4
                go_wp2_with fail
                all_goals
                  go_end0
                  have hfin := sym_parts HSA.out HSB.out HM1.out HM2.out HSY.out.2.2.1 HSY.out.2.2.2
                  exact ⟨rfl, ⟨M1 ++ M2, by first | exact hfin | simpa [List.append_assoc] using hfin, by simpa [List.append_assoc] using HQ4.out⟩, HO4.out⟩
            · have r5 : (mid : Int) < (e : Int) := by have := HMD.out; omega
              have r6 : ¬ ((e : Int) < (b : Int)) := by have := HAB.out.2.2.2; rw [h2, List.length_nil] at this; omega
              have HM2 : Hid (Stab f (A2 ++ B2) (A2 ++ B2)) := Stab.self (srt_nil_left HSA.out.right HSB.out.right (.inr h2))
              clear h1 h2
              go_wp2_with fail
              all_goals
                go_end0
                have hfin := sym_parts HSA.out HSB.out HM1.out HM2.out HSY.out.2.2.1 HSY.out.2.2.2
                exact ⟨rfl, ⟨M1 ++ (A2 ++ B2), by first | exact hfin | simpa [List.append_assoc] using hfin, by simpa [List.append_assoc] using HQ3.out⟩, HO3.out⟩
            · have r5 : ¬ ((mid : Int) < (e : Int)) := by have := HMD.out; rw [h1, List.length_nil] at this; omega
              have HM2 : Hid (Stab f (A2 ++ B2) (A2 ++ B2)) := Stab.self (srt_nil_left HSA.out.right HSB.out.right (.inl h1))
              clear h1
              go_wp2_with fail
              all_goals
                go_end0
                have hfin := sym_parts HSA.out HSB.out HM1.out HM2.out HSY.out.2.2.1 HSY.out.2.2.2
                exact ⟨rfl, ⟨M1 ++ (A2 ++ B2), by first | exact hfin | simpa [List.append_assoc] using hfin, by simpa [List.append_assoc] using HQ3.out⟩, HO3.out⟩
          · have r3 : ¬ ((a : Int) < (s : Int)) := by have := HAB.out; rw [h1, List.length_nil] at this; omega
            obtain ⟨M1, hm1⟩ : ∃ M1, M1 = A1 ++ B1 := ⟨_, rfl⟩
            have HM1 : Hid (Stab f (A1 ++ B1) M1) := by show Stab _ _ _; rw [hm1]; exact Stab.self (srt_nil_left HSA.out.left HSB.out.left (.inl h1))
            have HQ3 : Hid (SeqAt wr g off (P ++ (M1 ++ (A2 ++ (B2 ++ Q))))) := by show SeqAt _ _ _ _; rw [hm1]; exact HQ2.out
            have HO3 := HO2
            clear hm1 h1
            have hr2 : (0 < A2.length ∧ 0 < B2.length) ∨ (0 < A2.length ∧ B2 = []) ∨ A2 = [] := three_ways A2 B2
            rcases hr2 with ⟨h1, h2⟩ | ⟨h1, h2⟩ | h1
            · have r5 : (mid : Int) < (e : Int) := by have := HMD.out; omega
              have r6 : (e : Int) < (b : Int) := by have := HAB.out; omega
              have hml := HM1.out.length
              have hsr := HIH.out mid e b (P ++ M1) A2 B2 Q wr (by have := HAB.out; have := HMD.out; have := HLN.out; have := HK.out; have := HN.out; simp at *; omega) h1 h2 HSA.out.right HSB.out.right (by simpa [List.append_assoc] using HQ3.out) (HC.out.keep _ _ HJ.out HO3.out.only) (by have := HAB.out; have := HMD.out; have := HN.out; have := HLN.out; simp at *; omega) HMD.out HAB.out.2.2.2 (by have := HLN.out; simp at *; omega)
              clear h1 h2 hml
              go_wp2_with fail
              all_goals
                with_reducible refine hsr.mono ?_
                rintro e_ wr ⟨rfl, ⟨M2, hM2, hs4⟩, ho4⟩
                have HM2 := Lib.hid hM2
                have HQ4 := Lib.hid hs4
                have HO4 : Hid (Frm g off len w wr) := HO3.out.trans ho4
                clear hsr hM2 hs4 ho4
                go_wp2_with fail
                all_goals
                  go_end0
                  have hfin := sym_parts HSA.out HSB.out HM1.out HM2.out HSY.out.2.2.1 HSY.out.2.2.2
                  exact ⟨rfl, ⟨M1 ++ M2, by first | exact hfin | simpa [List.append_assoc] using hfin, by simpa [List.append_assoc] using HQ4.out⟩, HO4.out⟩
            · have r5 : (mid : Int) < (e : Int) := by have := HMD.out; omega
              have r6 : ¬ ((e : Int) < (b : Int)) := by have := HAB.out.2.2.2; rw [h2, List.length_nil] at this; omega
              have HM2 : Hid (Stab f (A2 ++ B2) (A2 ++ B2)) := Stab.self (srt_nil_left HSA.out.right HSB.out.right (.inr h2))
              clear h1 h2
              go_wp2_with fail
              all_goals
                go_end0
                have hfin := sym_parts HSA.out HSB.out HM1.out HM2.out HSY.out.2.2.1 HSY.out.2.2.2
                exact ⟨rfl, ⟨M1 ++ (A2 ++ B2), by first | exact hfin | simpa [List.append_assoc] using hfin, by simpa [List.append_assoc] using HQ3.out⟩, HO3.out⟩
            · have r5 : ¬ ((mid : Int) < (e : Int)) := by have := HMD.out; rw [h1, List.length_nil] at this; omega
              have HM2 : Hid (Stab f (A2 ++ B2) (A2 ++ B2)) := Stab.self (srt_nil_left HSA.out.right HSB.out.right (.inl h1))
              clear h1
              go_wp2_with fail
              all_goals
                go_end0
                have hfin := sym_parts HSA.out HSB.out HM1.out HM2.out HSY.out.2.2.1 HSY.out.2.2.2
                exact ⟨rfl, ⟨M1 ++ (A2 ++ B2), by first | exact hfin | simpa [List.append_assoc] using hfin, by simpa [List.append_assoc] using HQ3.out⟩, HO3.out⟩
end Go.Proofs.YtnglhgogkemgbaaGreatDoor
/-! slices.SortStableFunc at []rune: symMerge, whole. -/
namespace Go.Proofs.YtnglhgogkemgbaaGreatDoor
open Go.RowKit

theorem symMerge_any (f : Int → Int) (J : World → Prop) (nb g off cap len : Nat) (hC : CmpBy f g nb J) (hl : len ≤ 1000000000) : ∀ N, SymBelow f J nb g off cap len N := by
  intro N
  induction N with
  | zero => intro a m b P A B Q w h; omega
  | succ N ih =>
    intro a m b P A B Q w h hA hB hsA hsB hs hj ha hm hb hlen
    by_cases h1 : A.length = 1
    · obtain ⟨x, rfl⟩ := List.length_eq_one_iff.1 h1
      exact symLeft_any f J nb g off cap a m b P B Q x w hC hs hj ha (by simpa using hm) hb hsB len (by simpa using hlen) hl
    · by_cases h2 : B.length = 1
      · obtain ⟨y, rfl⟩ := List.length_eq_one_iff.1 h2
        exact symRight_any f J nb g off cap a m b P A Q y w hC hs hj ha hm (by simpa using hb) (by omega) hsA len (by simpa using hlen) hl
      · exact symStep_any f J nb g off cap a m b P A B Q w hC len hl (fun a m b P A' B' Q w h => ih a m b P A' B' Q w (by omega)) (by omega) (by omega) hsA hsB hs hj ha hm hb hlen
end Go.Proofs.YtnglhgogkemgbaaGreatDoor
