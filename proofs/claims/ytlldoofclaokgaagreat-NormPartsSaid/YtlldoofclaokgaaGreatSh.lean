/- slices.SortStableFunc at []rune: symMerge where the first part is one element. slices.SortStableFunc at []rune: symMerge where the second part is one element. -/
import Derived.Test.YtlldoofclaokgaaGreatSc
/-! slices.SortStableFunc at []rune: symMerge where the first part is one element. -/
namespace Go.Proofs.YtlldoofclaokgaaGreat
open Go.RowKit

set_option maxHeartbeats 8000000 in
set_option maxRecDepth 1000000 in
theorem symLeft_any (f : Int → Int) (J : World → Prop) (nb g off cap a m b : Nat) (P B Q : List Int) (x : Int) (w : World) (hC : CmpBy f g nb J) (hs : SeqAt w g off (P ++ ([x] ++ (B ++ Q)))) (hj : J w) (ha : P.length = a) (hm : a + 1 = m) (hb : m + B.length = b) (hB : Srt f B) (len : Nat) (hlen : P.length + (1 + (B.length + Q.length)) = len) (hl : len ≤ 1000000000) :
    Calls Tryz.prog 144 #[.slice (some ⟨g, off, none⟩) len cap, .int .i64 a, .int .i64 m, .int .i64 b, .func (.func 93) #[] #[.pointer (some ⟨nb, 0, none⟩)]] w fun e w' =>
      e = .returned (.tuple #[]) ∧ (∃ M, Stab f ([x] ++ B) M ∧ SeqAt w' g off (P ++ (M ++ Q))) ∧ Frm g off len w w' := by
  have HS := Lib.hid hs
  have HJ := Lib.hid hj
  have HC := Lib.hid hC
  have HLN := Lib.hid (And.intro ha (And.intro hm (And.intro hb hlen)))
  have HSB := Lib.hid hB
  have hma : (m : Int) - (a : Int) = 1 := by omega
  have hbl : b ≤ len := by omega
  have hmb : m ≤ b := by omega
  have hal : a < len := by omega
  clear hs hj hC ha hb hlen hB hm
  go_enter Tryz.func144, Tryz.ntmps144
  go_wp2
  go_loopw [10, 11, 12] (fun iv jv _ wr => ∃ (i j : Nat), iv = .int .i64 i ∧ jv = .int .i64 j ∧ m ≤ i ∧ i ≤ j ∧ j ≤ b ∧ (∀ t y, m + t < i → B[t]? = some y → f y < f x) ∧ (∀ t y, j ≤ m + t → B[t]? = some y → f x ≤ f y) ∧ Below w.heap.size w wr) (fun iv jv _ _ => (intOf jv - intOf iv).toNat)
  case atStart => exact ⟨m, b, rfl, rfl, Nat.le_refl _, hmb, Nat.le_refl _, fun t y h => by omega, fun t y h hy => by have := (List.getElem?_eq_some_iff.1 hy).1; have := HLN.out; omega, Below.refl _ _⟩
  case round =>
    obtain ⟨i, j, rfl, rfl, hmi, hij, hjb, hlo, hhi, hbw⟩ := hrel
    have HLO := Lib.hid hlo
    have HHI := Lib.hid hhi
    have HBW := Lib.hid hbw
    have hsq : SeqAt wr g off (P ++ ([x] ++ (B ++ Q))) := HS.out.kept hbw
    have HJW : Hid (J wr) := HC.out.below HJ.out hbw
    clear hlo hhi hbw
    by_cases hlt : i < j
    · have e1 : (i : Int) < (j : Int) := by omega
      obtain ⟨h, hh⟩ : ∃ h, h = (i + j) / 2 := ⟨_, rfl⟩
      have hhm : ((i : Int) + (j : Int)) / 2 = (h : Int) := by omega
      obtain ⟨t, ht⟩ : ∃ t, t = h - m := ⟨_, rfl⟩
      have htl : t < B.length := by have := HLN.out; omega
      obtain ⟨y, hy⟩ : ∃ y, B[t]? = some y := ⟨B[t], List.getElem?_eq_getElem htl⟩
      have c1 := (hsq.2 h y (by
        have := HLN.out
        rw [List.getElem?_append_right (by omega), List.getElem?_append_right (by simp; omega), List.getElem?_append_left (by simp; omega), List.length_singleton, show h - P.length - 1 = t from by omega]; exact hy)).1
      have c2 := (hsq.2 a x (by rw [← HLN.out.1]; exact get_at P (B ++ Q) x)).1
      have hhl : h < len := by omega
      have hih : i ≤ h := by omega
      have hhj : h < j := by omega
      have hca : ∀ u', Calls Tryz.prog 93 #[.int .i32 y, .int .i32 x, .pointer (some ⟨nb, 0, none⟩)] (over wr u') fun e w' => e = .returned (.int .i64 (f y - f x)) ∧ Below (over wr u').heap.size (over wr u') w' :=
        fun u' => HC.out.call y x _ (HC.out.keep _ _ HJW.out ((Only.refl _ _).below (below_over wr u')))
      obtain ⟨q, hqe⟩ : ∃ q, q = f y - f x := ⟨_, rfl⟩
      rw [← hqe] at hca
      have HCA := Lib.hid hca
      have hgl := hsq.1
      have HY := Lib.hid (And.intro hy (And.intro htl (And.intro ht hqe)))
      clear hsq hh ht htl hy hqe
      by_cases hq0 : q < 0
      · have g2 : decide (q < 0) = true := decide_eq_true hq0
        clear hca
        go_wp2_with fail
        refine wp_region_over (by kernel_rfl) (by kernel_rfl) ?_; (repeat (go_big_quiet_step (((go_at_call 93; exact over_of (HCA.out _)))))); refine wpQuiet_nil ?_; intro w1 hb1
        have HB1 := Lib.hid hb1
        clear hb1 c1 c2
        go_wp2_with fail
        go_roundw
        case rel =>
          obtain ⟨hy, htl, ht, hqe⟩ := HY.out
          refine ⟨h + 1, j, by go_num, rfl, by omega, by omega, hjb, fun t' y' h1 hy' => ?_, HHI.out, HBW.out.trans (HB1.out.mono HBW.out.size)⟩
          have := HSB.out.at (i := t') (j := t) (by omega) hy' hy
          omega
        case measure => (show ((j : Int) - ((h : Int) + 1)).toNat < ((j : Int) - (i : Int)).toNat; omega)
      · have g2 : decide (q < 0) = false := decide_eq_false hq0
        clear hca
        go_wp2_with fail
        refine wp_region_over (by kernel_rfl) (by kernel_rfl) ?_; (repeat (go_big_quiet_step (((go_at_call 93; exact over_of (HCA.out _)))))); refine wpQuiet_nil ?_; intro w1 hb1
        have HB1 := Lib.hid hb1
        clear hb1 c1 c2
        go_wp2_with fail
        go_roundw
        case rel =>
          obtain ⟨hy, htl, ht, hqe⟩ := HY.out
          refine ⟨i, h, rfl, rfl, hmi, hih, by omega, HLO.out, fun t' y' h1 hy' => ?_, HBW.out.trans (HB1.out.mono HBW.out.size)⟩
          have := HSB.out.at (i := t) (j := t') (by omega) hy hy'
          omega
        case measure => (show ((h : Int) - (i : Int)).toNat < ((j : Int) - (i : Int)).toNat; omega)
    · have e1 : ¬ ((i : Int) < (j : Int)) := by omega
      obtain rfl : i = j := by omega
      obtain ⟨i1, hi1⟩ : ∃ i1, i = i1 + 1 := ⟨i - 1, by have := HLN.out; omega⟩
      have hi2 : (i : Int) - 1 = (i1 : Int) := by omega
      have hai : a ≤ i1 := by have := HLN.out; omega
      have HSQ := Lib.hid hsq
      have HI1 := Lib.hid hi1
      have hi1l : i1 + 1 < len + 1 := by omega
      clear hsq hij hi1
      go_wp2_with fail
      go_loopw [13] (fun kv wr2 => ∃ k : Nat, kv = .int .i64 k ∧ a ≤ k ∧ k ≤ i1 ∧ SeqAt wr2 g off (P ++ (B.take (k - a) ++ (x :: (B.drop (k - a) ++ Q)))) ∧ Frm g off len w wr2) (fun kv _ => i1 - (intOf kv).toNat)
      case atStart => exact ⟨a, rfl, Nat.le_refl _, hai, by rw [Nat.sub_self]; exact HSQ.out, Frm.of_below (HBW.out.mono (by have := HS.out.1; omega))⟩
      case round =>
        obtain ⟨k, rfl, hak, hki, hsq, ho⟩ := hrel
        have HO := Lib.hid ho
        have HQ := Lib.hid hsq
        clear hsq ho
        by_cases hlt2 : k < i1
        · have g1 : (k : Int) < (i1 : Int) := by omega
          obtain ⟨t, ht⟩ : ∃ t, t = k - a := ⟨_, rfl⟩
          have htl : t < B.length := by have := HLN.out; have := HI1.out; omega
          obtain ⟨y, hy1, hy2⟩ := drop_cons' htl
          obtain ⟨k2, hk2⟩ : ∃ k2, k2 = k + 1 := ⟨_, rfl⟩
          have hk3 : (k : Int) + 1 = (k2 : Int) := by omega
          have hq : SeqAt wr g off ((P ++ B.take t) ++ x :: ([] ++ y :: (B.drop (t + 1) ++ Q))) := by
            have := HQ.out; rw [← ht, hy2] at this; simpa [List.append_assoc] using this
          have l1 : k = (P ++ B.take t).length := by have := HLN.out; rw [List.length_append, List.length_take]; omega
          have l2 : k2 = (P ++ B.take t).length + (([] : List Int).length + 1) := by rw [← l1, hk2]; rfl
          obtain ⟨c1, c2⟩ := hq.get
          rw [← l1] at c1 c2
          obtain ⟨c3, c4⟩ := hq.2 k2 y (by rw [l2, List.getElem?_append_right (by omega), Nat.add_sub_cancel_left]; rfl)
          have hkl : k < len := by omega
          have hkl2 : k2 < len := by have := HI1.out; omega
          have hne : k ≠ k2 := by omega
          have HQ3 := Lib.hid (And.intro hq (And.intro l1 (And.intro l2 (And.intro hy1 (And.intro ht hk2)))))
          clear hq l1 l2 hy1 hy2 ht hk2 htl
          go_wp2
          go_region
          all_goals (go_wp2; go_roundw)
          case rel =>
            obtain ⟨hq, l1, l2, hy1, ht, hk2⟩ := HQ3.out
            refine ⟨k2, rfl, by omega, by omega, ?_, ((HO.out.setCell k hkl _).setCell k2 hkl2 _).drew⟩
            have h := (hq.swap l1 l2).drew
            rw [show k2 - a = t + 1 from by omega, take_snoc hy1]
            simpa [List.append_assoc] using h
          case measure => (have := HQ3.out.2.2.2.2.2; show i1 - (k2 : Int).toNat < i1 - (k : Int).toNat; omega)
        · have g1 : ¬ ((k : Int) < (i1 : Int)) := by omega
          go_wp2
          refine bodyPost_ret (results_none rfl _ _ _) rfl ?_
          refine ⟨rfl, ⟨_, Stab.left (U := B.take (k - a)) (V := B.drop (k - a)) (by rw [List.take_append_drop]; exact HSB.out) (mem_take_p (fun t y h hy => HLO.out t y (by have := HLN.out; have := HI1.out; omega) hy)) (mem_drop_p (fun t y h hy => HHI.out t y (by have := HLN.out; have := HI1.out; omega) hy)) |> fun h => by rw [List.take_append_drop] at h; exact h, ?_⟩, HO.out⟩
          simpa [List.append_assoc] using HQ.out
end Go.Proofs.YtlldoofclaokgaaGreat
/-! slices.SortStableFunc at []rune: symMerge where the second part is one element. -/
namespace Go.Proofs.YtlldoofclaokgaaGreat
open Go.RowKit

set_option maxHeartbeats 8000000 in
set_option maxRecDepth 1000000 in
theorem symRight_any (f : Int → Int) (J : World → Prop) (nb g off cap a m b : Nat) (P A Q : List Int) (y : Int) (w : World) (hC : CmpBy f g nb J) (hs : SeqAt w g off (P ++ (A ++ ([y] ++ Q)))) (hj : J w) (ha : P.length = a) (hm : a + A.length = m) (hb : m + 1 = b) (hA1 : 1 < A.length) (hA : Srt f A) (len : Nat) (hlen : P.length + (A.length + (1 + Q.length)) = len) (hl : len ≤ 1000000000) :
    Calls Tryz.prog 144 #[.slice (some ⟨g, off, none⟩) len cap, .int .i64 a, .int .i64 m, .int .i64 b, .func (.func 93) #[] #[.pointer (some ⟨nb, 0, none⟩)]] w fun e w' =>
      e = .returned (.tuple #[]) ∧ (∃ M, Stab f (A ++ [y]) M ∧ SeqAt w' g off (P ++ (M ++ Q))) ∧ Frm g off len w w' := by
  have HS := Lib.hid hs
  have HJ := Lib.hid hj
  have HC := Lib.hid hC
  have HLN := Lib.hid (And.intro ha (And.intro hm (And.intro hb hlen)))
  have HSA := Lib.hid hA
  have hma : ¬ ((m : Int) - (a : Int) = 1) := by omega
  have hbm : (b : Int) - (m : Int) = 1 := by omega
  have hmaB : ((m : Int) - (a : Int) == 1) = false := by simpa using hma
  have ham : a ≤ m := by omega
  have hml : m < len := by omega
  clear hs hj hC ha hb hlen hA hm hA1
  go_enter Tryz.func144, Tryz.ntmps144
  go_wp2
  go_loopw [14, 15, 16] (fun iv jv _ wr => ∃ (i j : Nat), iv = .int .i64 i ∧ jv = .int .i64 j ∧ a ≤ i ∧ i ≤ j ∧ j ≤ m ∧ (∀ t z, a + t < i → A[t]? = some z → f z ≤ f y) ∧ (∀ t z, j ≤ a + t → A[t]? = some z → f y < f z) ∧ Below w.heap.size w wr) (fun iv jv _ _ => (intOf jv - intOf iv).toNat)
  case atStart => exact ⟨a, m, rfl, rfl, Nat.le_refl _, ham, Nat.le_refl _, fun t y h => by omega, fun t y h hy => by have := (List.getElem?_eq_some_iff.1 hy).1; have := HLN.out; omega, Below.refl _ _⟩
  case round =>
    obtain ⟨i, j, rfl, rfl, hmi, hij, hjb, hlo, hhi, hbw⟩ := hrel
    have HLO := Lib.hid hlo
    have HHI := Lib.hid hhi
    have HBW := Lib.hid hbw
    have hsq : SeqAt wr g off (P ++ (A ++ ([y] ++ Q))) := HS.out.kept hbw
    have HJW : Hid (J wr) := HC.out.below HJ.out hbw
    clear hlo hhi hbw
    by_cases hlt : i < j
    · have e1 : (i : Int) < (j : Int) := by omega
      obtain ⟨h, hh⟩ : ∃ h, h = (i + j) / 2 := ⟨_, rfl⟩
      have hhm : ((i : Int) + (j : Int)) / 2 = (h : Int) := by omega
      obtain ⟨t, ht⟩ : ∃ t, t = h - a := ⟨_, rfl⟩
      have htl : t < A.length := by have := HLN.out; omega
      obtain ⟨z, hz⟩ : ∃ z, A[t]? = some z := ⟨A[t], List.getElem?_eq_getElem htl⟩
      have c1 := (hsq.2 h z (by
        have := HLN.out
        rw [List.getElem?_append_right (by omega), List.getElem?_append_left (by omega), show h - P.length = t from by omega]; exact hz)).1
      have c2 := (hsq.2 m y (by
        have := HLN.out
        rw [List.getElem?_append_right (by omega), List.getElem?_append_right (by omega), show m - P.length - A.length = 0 from by omega]; rfl)).1
      have hhl : h < len := by omega
      have hih : i ≤ h := by omega
      have hhj : h < j := by omega
      have hca : ∀ u', Calls Tryz.prog 93 #[.int .i32 y, .int .i32 z, .pointer (some ⟨nb, 0, none⟩)] (over wr u') fun e w' => e = .returned (.int .i64 (f y - f z)) ∧ Below (over wr u').heap.size (over wr u') w' :=
        fun u' => HC.out.call y z _ (HC.out.keep _ _ HJW.out ((Only.refl _ _).below (below_over wr u')))
      obtain ⟨q, hqe⟩ : ∃ q, q = f y - f z := ⟨_, rfl⟩
      rw [← hqe] at hca
      have HCA := Lib.hid hca
      have hgl := hsq.1
      have HY := Lib.hid (And.intro hz (And.intro htl (And.intro ht hqe)))
      clear hsq hh ht htl hz hqe
      by_cases hq0 : q < 0
      · have g2 : decide (q < 0) = true := decide_eq_true hq0
        clear hca
        go_wp2_with fail
        refine wp_region_over (by kernel_rfl) (by kernel_rfl) ?_; (repeat (go_big_quiet_step (((go_at_call 93; exact over_of (HCA.out _)))))); refine wpQuiet_nil ?_; intro w1 hb1
        have HB1 := Lib.hid hb1
        clear hb1 c1 c2
        go_wp2_with fail
        go_roundw
        case rel =>
          obtain ⟨hy, htl, ht, hqe⟩ := HY.out
          refine ⟨i, h, rfl, rfl, hmi, hih, by omega, HLO.out, fun t' z' h1 hz' => ?_, HBW.out.trans (HB1.out.mono HBW.out.size)⟩
          have := HSA.out.at (i := t) (j := t') (by omega) hy hz'
          omega
        case measure => (show ((h : Int) - (i : Int)).toNat < ((j : Int) - (i : Int)).toNat; omega)
      · have g2 : decide (q < 0) = false := decide_eq_false hq0
        have HQ0 := Lib.hid hq0
        clear hca hq0
        go_wp2_with fail
        refine wp_region_over (by kernel_rfl) (by kernel_rfl) ?_; (repeat (go_big_quiet_step (((go_at_call 93; exact over_of (HCA.out _)))))); refine wpQuiet_nil ?_; intro w1 hb1
        have HB1 := Lib.hid hb1
        clear hb1 c1 c2
        go_wp2_with fail
        go_roundw
        case rel =>
          obtain ⟨hy, htl, ht, hqe⟩ := HY.out
          have hq0 := HQ0.out
          refine ⟨h + 1, j, by go_num, rfl, by omega, by omega, hjb, fun t' z' h1 hz' => ?_, HHI.out, HBW.out.trans (HB1.out.mono HBW.out.size)⟩
          have := HSA.out.at (i := t') (j := t) (by omega) hz' hy
          omega
        case measure => (show ((j : Int) - ((h : Int) + 1)).toNat < ((j : Int) - (i : Int)).toNat; omega)
    · have e1 : ¬ ((i : Int) < (j : Int)) := by omega
      obtain rfl : i = j := by omega
      have HSQ := Lib.hid hsq
      clear hsq hij
      go_wp2_with fail
      go_loopw [17] (fun kv wr2 => ∃ k : Nat, kv = .int .i64 k ∧ i ≤ k ∧ k ≤ m ∧ SeqAt wr2 g off (P ++ (A.take (k - a) ++ (y :: (A.drop (k - a) ++ Q)))) ∧ Frm g off len w wr2) (fun kv _ => (intOf kv).toNat)
      case atStart =>
        refine ⟨m, rfl, hjb, Nat.le_refl _, ?_, Frm.of_below (HBW.out.mono (by have := HS.out.1; omega))⟩
        have := HLN.out
        rw [List.take_of_length_le (by omega), List.drop_of_length_le (by omega)]; exact HSQ.out
      case round =>
        obtain ⟨k, rfl, hik, hkm, hsq, ho⟩ := hrel
        have HO := Lib.hid ho
        have HQ := Lib.hid hsq
        clear hsq ho
        by_cases hlt2 : i < k
        · have g1 : (i : Int) < (k : Int) := by omega
          obtain ⟨t, ht⟩ : ∃ t, k = a + t + 1 := ⟨k - a - 1, by omega⟩
          have htl : t < A.length := by have := HLN.out; omega
          obtain ⟨z, hz⟩ : ∃ z, A[t]? = some z := ⟨A[t], List.getElem?_eq_getElem htl⟩
          obtain ⟨k1, hk1⟩ : ∃ k1, k1 = a + t := ⟨_, rfl⟩
          have hk3 : (k : Int) - 1 = (k1 : Int) := by omega
          have hq : SeqAt wr g off ((P ++ A.take t) ++ z :: ([] ++ y :: (A.drop (t + 1) ++ Q))) := by
            have := HQ.out; rw [show k - a = t + 1 from by omega, take_snoc hz] at this; simpa [List.append_assoc] using this
          have l1 : k1 = (P ++ A.take t).length := by have := HLN.out; rw [List.length_append, List.length_take]; omega
          have l2 : k = (P ++ A.take t).length + (([] : List Int).length + 1) := by rw [← l1, hk1, ht]; rfl
          obtain ⟨c1, c2⟩ := hq.get
          rw [← l1] at c1 c2
          obtain ⟨c3, c4⟩ := hq.2 k y (by rw [l2, List.getElem?_append_right (by omega), Nat.add_sub_cancel_left]; rfl)
          have hkl : k < len := by omega
          have hkl2 : k1 < len := by omega
          have hne : k ≠ k1 := by omega
          have hk0 : 0 < k := by omega
          have HQ3 := Lib.hid (And.intro hq (And.intro l1 (And.intro l2 (And.intro hz (And.intro ht hk1)))))
          clear hq l1 l2 hz ht hk1 htl hbm
          go_wp2
          go_region
          all_goals (go_wp2; go_roundw)
          case rel =>
            obtain ⟨hq, l1, l2, hz, ht, hk1⟩ := HQ3.out
            refine ⟨k1, rfl, by omega, by omega, ?_, ((HO.out.setCell k hkl _).setCell k1 hkl2 _).drew⟩
            have h := (hq.swap' l1 l2).drew
            obtain ⟨_, h2⟩ : ∃ u, A.drop t = u := ⟨_, rfl⟩
            have h3 : A.drop t = z :: A.drop (t + 1) := by
              obtain ⟨z', hz1, hz2⟩ := drop_cons' (l := A) (i := t) ((List.getElem?_eq_some_iff.1 hz).1)
              rw [hz] at hz1; cases hz1; exact hz2
            rw [show k1 - a = t from by omega, h3]
            simpa [List.append_assoc] using h
          case measure => (have := HQ3.out.2.2.2.2; show (k1 : Int).toNat < (k : Int).toNat; omega)
        · have g1 : ¬ ((i : Int) < (k : Int)) := by omega
          have hki : k = i := by omega
          go_wp2
          refine bodyPost_ret (results_none rfl _ _ _) rfl ?_
          have hst := Stab.insert (f := f) (S := A) (U := A.take (k - a)) (V := A.drop (k - a)) (x := y) (by rw [List.take_append_drop]; exact Stab.self HSA.out) (mem_take_p (fun t z h hz => HLO.out t z (by omega) hz)) (mem_drop_p (fun t z h hz => HHI.out t z (by omega) hz))
          refine ⟨rfl, ⟨_, hst, ?_⟩, HO.out⟩
          simpa [List.append_assoc] using HQ.out
end Go.Proofs.YtlldoofclaokgaaGreat
