/- slices.SortStableFunc at []rune: the whole. -/
import Derived.Test.YtlldoofclaokgaaGreatSc
import Derived.Test.YtlldoofclaokgaaGreatSa
namespace Go.Proofs.YtlldoofclaokgaaGreat
open Go.RowKit

set_option maxHeartbeats 16000000 in
set_option maxRecDepth 1000000 in
theorem stable_any (f : Int → Int) (J : World → Prop) (nb g off cap n : Nat) (S : List Int) (w : World) (hC : CmpBy f g nb J) (hs : SeqAt w g off S) (hj : J w) (hn : S.length = n) (hl : n ≤ 1000000000) (hsm : SymBelow f J nb g off cap n (n + 1)) :
    Calls Tryz.prog 120 #[.slice (some ⟨g, off, none⟩) n cap, .int .i64 n, .func (.func 93) #[] #[.pointer (some ⟨nb, 0, none⟩)]] w fun e w' =>
      e = .returned (.tuple #[]) ∧ (∃ M, Stab f S M ∧ SeqAt w' g off M) ∧ Frm g off n w w' := by
  have HS := Lib.hid hs
  have HJ := Lib.hid hj
  have HC := Lib.hid hC
  have HN := Lib.hid hn
  have HSM := Lib.hid hsm
  clear hs hj hC hn hsm
  go_enter Tryz.func120, Tryz.ntmps120
  go_wp2_with fail
  go_loopw [7, 8] (fun av bv wr => ∃ (c a b : Nat) (cur : List Int), av = .int .i64 a ∧ bv = .int .i64 b ∧ a = c * 20 ∧ b = a + 20 ∧ a ≤ n ∧ cur.length = n ∧ (∀ c', c' < c → Stab f (blk 20 c' S) (blk 20 c' cur)) ∧ cur.drop a = S.drop a ∧ SeqAt wr g off cur ∧ Frm g off n w wr) (fun av _ _ => n + 20 - (intOf av).toNat)
  case atStart => exact ⟨0, 0, 20, S, rfl, rfl, rfl, rfl, Nat.zero_le _, HN.out, fun c' h => by omega, rfl, HS.out, Frm.refl _ _ _ _⟩
  case round =>
    obtain ⟨c, a, b, cur, rfl, rfl, hac, hba, han, hcl, hbl, hdr, hsq, ho⟩ := hrel
    have HQ := Lib.hid hsq
    have HO := Lib.hid ho
    have HBL := Lib.hid hbl
    have HDR := Lib.hid hdr
    have HCL := Lib.hid hcl
    have HAC := Lib.hid hac
    have HJ1 : Hid (J wr) := HC.out.keep _ _ HJ.out ho.only
    by_cases hbn : b ≤ n
    · have g1 : (b : Int) ≤ (n : Int) := by omega
      have hsp : cur = cur.take a ++ (blk 20 c cur ++ cur.drop b) := by
        have := blk_split (bs := 20) (c := c) cur
        rwa [← hac, ← hba] at this
      have hxl : (blk 20 c cur).length = 20 := blk_len (by omega)
      have htl : (cur.take a).length = a := by rw [List.length_take]; omega
      have hin := insertion_any f J nb g off cap a b (cur.take a) (blk 20 c cur) (cur.drop b) wr HC.out (by rw [← hsp]; exact hsq) HJ1.out htl (by omega) n (by rw [htl, hxl, List.length_drop]; omega) hl
      have HX := Lib.hid (And.intro hsp (And.intro hxl (And.intro htl hba)))
      clear hsq ho hbl hdr hcl hac hsp hxl htl hba
      go_wp2_with fail
      with_reducible refine hin.mono ?_
      rintro e w1 ⟨rfl, ⟨M, hM, hs1⟩, ho1⟩
      have HM := Lib.hid hM
      have HS1 := Lib.hid hs1
      have HO1 := Lib.hid (HO.out.trans ho1)
      clear hin hM hs1 ho1
      go_wp2_with fail
      go_roundw
      case rel =>
        obtain ⟨hsp, hxl, htl, hba⟩ := HX.out
        have hcl := HCL.out
        have hac := HAC.out
        have hml : M.length = 20 := by rw [HM.out.length]; exact hxl
        have hdl : (cur.drop b).length = n - b := by rw [List.length_drop]; omega
        refine ⟨c + 1, b, b + 20, cur.take a ++ (M ++ cur.drop b), rfl, by go_num, by omega, rfl, hbn, by rw [List.length_append, List.length_append, htl, hml, hdl]; omega, fun c' hc' => ?_, ?_, HS1.out, HO1.out⟩
        · rcases Nat.lt_or_ge c' c with h | h
          · have h1 := HBL.out c' h
            have hle : c' * 20 + 20 ≤ (cur.take a).length := by omega
            rw [hsp, blk_ahead hle] at h1
            rwa [blk_ahead hle]
          · obtain rfl : c' = c := by omega
            rw [blk_at (by omega) hml, ← blk_drop (L := cur) (by rw [← hac]; exact HDR.out)]
            exact HM.out
        · rw [← List.append_assoc, List.drop_append_of_le_length (by rw [List.length_append]; omega), List.drop_of_length_le (by rw [List.length_append]; omega), List.nil_append, hba, ← List.drop_drop, HDR.out, List.drop_drop]
      case measure => (have := HX.out.2.2.2; show n + 20 - (b : Int).toNat < n + 20 - (a : Int).toNat; omega)
    · have g1 : ¬ ((b : Int) ≤ (n : Int)) := by omega
      have htl : (cur.take a).length = a := by rw [List.length_take]; omega
      have hdl : (cur.drop a).length = n - a := by rw [List.length_drop]; omega
      have hin := insertion_any f J nb g off cap a n (cur.take a) (cur.drop a) [] wr HC.out (by rw [List.append_nil, List.take_append_drop]; exact hsq) HJ1.out htl (by omega) n (by rw [htl, hdl, List.length_nil]; omega) hl
      have HX := Lib.hid (And.intro htl (And.intro hdl (And.intro hba hbn)))
      clear hsq ho hbl hdr hcl hac htl hdl hba hbn
      go_wp2_with fail
      with_reducible refine hin.mono ?_
      rintro e w1 ⟨rfl, ⟨M, hM, hs1⟩, ho1⟩
      have HB1 : Hid ((∀ c, Stab f (blk 20 c S) (blk 20 c (cur.take a ++ M))) ∧ (cur.take a ++ M).length = n ∧ SeqAt w1 g off (cur.take a ++ M) ∧ Frm g off n w w1) := by
        obtain ⟨htl, hdl, hba, hbn⟩ := HX.out
        have hac := HAC.out
        have hml := hM.length
        refine ⟨fun c' => ?_, by rw [List.length_append]; omega, by simpa using hs1, HO.out.trans ho1⟩
        rcases Nat.lt_trichotomy c' c with h | h | h
        · have h1 := HBL.out c' h
          have hle : c' * 20 + 20 ≤ (cur.take a).length := by omega
          rw [← List.take_append_drop a cur, blk_ahead hle] at h1
          rwa [blk_ahead hle]
        · subst h
          rw [blk_end (by omega) (by omega), ← blk_drop (L := cur) (by rw [← hac]; exact HDR.out), ← List.take_append_drop a cur, blk_end (by omega) (by omega)]
          exact hM
        · have hz := HN.out
          rw [blk_none (by omega), blk_none (by rw [List.length_append]; omega)]
          exact Stab.nil
      clear hin hM hs1 ho1
      generalize cur.take a ++ M = L1 at HB1
      clear HX HQ HO HBL HDR HCL HAC HJ1 g1
      go_wp2_with fail
      go_loopw [6, 7, 8, 9] (fun sv _ _ _ wr => ∃ (bs : Nat) (L : List Int), sv = .int .i64 bs ∧ 0 < bs ∧ bs ≤ 2 * n + 20 ∧ (∀ c, Stab f (blk bs c S) (blk bs c L)) ∧ L.length = n ∧ SeqAt wr g off L ∧ Frm g off n w wr) (fun sv _ _ _ _ => n - (intOf sv).toNat)
      case atStart => exact ⟨20, L1, rfl, by omega, by omega, HB1.out.1, HB1.out.2.1, HB1.out.2.2.1, HB1.out.2.2.2⟩
      case round =>
        obtain ⟨bs, L, rfl, hb0, hbu, hSL, hLn, hsq, ho⟩ := hrel
        have HQ := Lib.hid hsq
        have HO := Lib.hid ho
        have HSL := Lib.hid hSL
        have HLn := Lib.hid hLn
        clear hSL hLn hsq ho HB1
        by_cases hlt : bs < n
        · have g2 : (bs : Int) < (n : Int) := by omega
          obtain ⟨d, hd⟩ : ∃ d, d = 2 * bs := ⟨_, rfl⟩
          have hdd : 2 * (bs : Int) = (d : Int) := by omega
          have hdd' : (bs : Int) * 2 = (d : Int) := by omega
          have hdl : d ≤ 2000000000 := by omega
          have HD := Lib.hid hd
          clear hd
          go_wp2_with fail
          go_loopw [7, 8] (fun av bv wr => ∃ (c a b : Nat) (cur : List Int), av = .int .i64 a ∧ bv = .int .i64 b ∧ a = c * (2 * bs) ∧ b = a + d ∧ a ≤ n ∧ cur.length = n ∧ (∀ c', c' < c → Stab f (blk (2 * bs) c' S) (blk (2 * bs) c' cur)) ∧ cur.drop a = L.drop a ∧ SeqAt wr g off cur ∧ Frm g off n w wr) (fun av _ _ => n + 20 - (intOf av).toNat)
          case atStart => exact ⟨0, 0, d, L, rfl, rfl, by omega, by omega, Nat.zero_le _, HLn.out, fun c' h => by omega, rfl, HQ.out, HO.out⟩
          case round =>
            obtain ⟨c, a, b, cur, rfl, rfl, hac, hba, han, hcl, hbl, hdr, hsq, ho⟩ := hrel
            have HJ1 : Hid (J wr) := HC.out.keep _ _ HJ.out ho.only
            have HO2 := Lib.hid ho
            obtain ⟨m, hm⟩ : ∃ m, m = a + bs := ⟨_, rfl⟩
            have hmm : (a : Int) + (bs : Int) = (m : Int) := by omega
            have hbb : (b : Int) + (d : Int) = ((b + d : Nat) : Int) := by omega
            obtain ⟨b2, hb2⟩ : ∃ b2, b2 = b + d := ⟨_, rfl⟩
            have hbb2 : (b : Int) + (d : Int) = (b2 : Int) := by omega
            have hb2l : b2 ≤ 6000000000 := by omega
            clear hbb
            by_cases hbn : b ≤ n
            · have g1 : (b : Int) ≤ (n : Int) := by omega
              obtain ⟨A, B, hcut, hA, hB, hsA, hsB, hnx⟩ := two_step (bs := bs) (c := c) (n := n) (a := a) (b := b) (S := S) hac (by rw [hba, HD.out]) hcl hbn hdr HSL.out hbl
              have htl : (cur.take a).length = a := by rw [List.length_take]; omega
              have hdl2 : (cur.drop b).length = n - b := by rw [List.length_drop]; omega
              have hsm := HSM.out a m b (cur.take a) A B (cur.drop b) wr (by have := HD.out; omega) (by omega) (by omega) hsA hsB (by rw [← hcut]; exact hsq) HJ1.out htl (by omega) (by have := HD.out; omega) (by have := HD.out; omega)
              have HNX := Lib.hid hnx
              have HX := Lib.hid (And.intro hac (And.intro hba hb2))
              clear hsq ho hbl hdr hcl hac hba hcut hA hB hsA hsB hnx htl hdl2 hm hb2
              go_wp2_with fail
              with_reducible refine hsm.mono ?_
              rintro e w1 ⟨rfl, ⟨M, hM, hs1⟩, ho1⟩
              have HM := Lib.hid (And.intro hM (And.intro hs1 (HO2.out.trans ho1)))
              clear hsm hM hs1 ho1
              go_wp2_with fail
              go_roundw
              case rel =>
                obtain ⟨hM, hs1, ho1⟩ := HM.out
                obtain ⟨hac, hba, hb2⟩ := HX.out
                obtain ⟨k1, k2, k3⟩ := HNX.out M hM
                have hd := HD.out
                exact ⟨c + 1, b, b2, _, rfl, rfl, by rw [Nat.add_mul, Nat.one_mul, ← hac]; omega, by omega, hbn, k2, k1, k3, hs1, ho1⟩
              case measure => (have := HX.out.2.1; have := HD.out; show n + 20 - (b : Int).toNat < n + 20 - (a : Int).toNat; omega)
            · have g1 : ¬ ((b : Int) ≤ (n : Int)) := by omega
              by_cases hmn : m < n
              · have g3 : (m : Int) < (n : Int) := by omega
                obtain ⟨A, B, hcut, hA, hB, hsA, hsB, hnx⟩ := two_rest (bs := bs) (c := c) (n := n) (a := a) (b := b) (m := m) (S := S) hac (by rw [hba, HD.out]) hcl HN.out (by omega) hm hmn hdr HSL.out hbl
                have htl : (cur.take a).length = a := by rw [List.length_take]; omega
                have hsm := HSM.out a m n (cur.take a) A B [] wr (by omega) (by omega) (by omega) hsA hsB (by rw [← hcut]; exact hsq) HJ1.out htl (by omega) hB (by simp; omega)
                have HNX := Lib.hid hnx
                clear hsq ho hbl hdr hcl hac hba hcut hA hB hsA hsB hnx htl hm hb2 hbn
                go_wp2_with fail
                with_reducible refine hsm.mono ?_
                rintro e w1 ⟨rfl, ⟨M, hM, hs1⟩, ho1⟩
                have HM := Lib.hid (And.intro hM (And.intro hs1 (HO2.out.trans ho1)))
                clear hsm hM hs1 ho1
                go_wp2_with fail
                go_roundw
                case rel =>
                  obtain ⟨hM, hs1, ho1⟩ := HM.out
                  obtain ⟨k1, k2⟩ := HNX.out M hM
                  have hd := HD.out
                  exact ⟨d, _, by go_num, by omega, by omega, by rw [hd]; exact k1, k2, hs1, ho1⟩
                case measure => (have := HD.out; show n - (d : Int).toNat < n - (bs : Int).toNat; omega)
              · have g3 : ¬ ((m : Int) < (n : Int)) := by omega
                have hnx := two_end (bs := bs) (c := c) (n := n) (a := a) (b := b) (m := m) (S := S) hac (by rw [hba, HD.out]) hcl HN.out (by omega) hm (by omega) hdr HSL.out hbl
                have HNX := Lib.hid (And.intro hnx (And.intro hcl hsq))
                clear hsq ho hbl hdr hcl hac hba hnx hm hb2 hbn
                go_wp2_with fail
                go_roundw
                case rel =>
                  obtain ⟨k1, k2, k3⟩ := HNX.out
                  have hd := HD.out
                  exact ⟨d, _, by go_num, by omega, by omega, by rw [hd]; exact k1, k2, k3, HO2.out⟩
                case measure => (have := HD.out; show n - (d : Int).toNat < n - (bs : Int).toNat; omega)
        · have g2 : ¬ ((bs : Int) < (n : Int)) := by omega
          go_wp2_with fail
          go_end0
          refine ⟨rfl, ⟨L, ?_, HQ.out⟩, HO.out⟩
          have := HSL.out 0
          rwa [blk_all (by have := HN.out; omega), blk_all (by have := HLn.out; omega)] at this
end Go.Proofs.YtlldoofclaokgaaGreat
