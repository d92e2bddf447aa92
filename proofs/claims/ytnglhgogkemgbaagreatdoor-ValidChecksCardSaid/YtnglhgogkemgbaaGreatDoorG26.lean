/- slices.SortStableFunc at []rune: the whole. norm.sorted's comparator, by the class of a code point. slices.SortStableFunc at []rune: symMerge where the first part is one element. slices.SortStableFunc at []rune: symMerge where the second part is one element. -/
import Derived.Test.YtnglhgogkemgbaaGreatDoorG25
import Derived.Test.YtnglhgogkemgbaaGreatDoorG24
namespace Go.Proofs.YtnglhgogkemgbaaGreatDoor
open Go.RowKit

set_option maxHeartbeats 16000000 in
set_option maxRecDepth 1000000 in
theorem stable_any (f : Int → Int) (J : World → Prop) (nb g off cap n : Nat) (S : List Int) (w : World) (hC : CmpBy f g nb J) (hs : SeqAt w g off S) (hj : J w) (hn : S.length = n) (hl : n ≤ 1000000000) (hsm : SymBelow f J nb g off cap n (n + 1)) :
    Calls Tryz.prog 193 #[.slice (some ⟨g, off, none⟩) n cap, .int .i64 n, .func (.func 185) #[] #[.pointer (some ⟨nb, 0, none⟩)]] w fun e w' =>
      e = .returned (.tuple #[]) ∧ (∃ M, Stab f S M ∧ SeqAt w' g off M) ∧ Frm g off n w w' := by
  have HS := Lib.hid hs
  have HJ := Lib.hid hj
  have HC := Lib.hid hC
  have HN := Lib.hid hn
  have HSM := Lib.hid hsm
  clear hs hj hC hn hsm
  go_enter Tryz.func193, Tryz.ntmps193
  go_wp2_with fail
  go_loopw [7, 8] (fun av bv wr => ∃ (c a b : Nat) (cur : List Int), av = .int .i64 a ∧ bv = .int .i64 b ∧ a = c * 20 ∧ b = a + 20 ∧ a ≤ n ∧ cur.length = n ∧ (∀ c', c' < c → Stab f (sblk 20 c' S) (sblk 20 c' cur)) ∧ cur.drop a = S.drop a ∧ SeqAt wr g off cur ∧ Frm g off n w wr) (fun av _ _ => n + 20 - (intOf av).toNat)
  case atStart => exact ⟨0, 0, 20, S, rfl, rfl, rfl, rfl, Nat.zero_le _, HN.out, fun c' h => by omega, rfl, HS.out, Frm.refl _ _ _ _⟩
  case round =>
    obtain ⟨c, a, b, cur, rfl, rfl, hac, hba, han, hcl, hbl, hdr, hsq, ho⟩ := hrel
    have HQ := Lib.hid hsq
    have HO := Lib.hid ho
    have HBL := Lib.hid hbl
    have HDR := Lib.hid hdr
    have HCL := Lib.hid hcl
    have HAC := Lib.hid hac
    have HJ1 : Hid (J wr) := HC.out.keep _ _ HJ.out ho.only
    by_cases hbn : b ≤ n
    · have g1 : (b : Int) ≤ (n : Int) := by omega
      have hsp : cur = cur.take a ++ (sblk 20 c cur ++ cur.drop b) := by
        have := blk_split (bs := 20) (c := c) cur
        rwa [← hac, ← hba] at this
      have hxl : (sblk 20 c cur).length = 20 := blk_len (by omega)
      have htl : (cur.take a).length = a := by rw [List.length_take]; omega
      have hin := insertion_any f J nb g off cap a b (cur.take a) (sblk 20 c cur) (cur.drop b) wr HC.out (by rw [← hsp]; exact hsq) HJ1.out htl (by omega) n (by rw [htl, hxl, List.length_drop]; omega) hl
      have HX := Lib.hid (And.intro hsp (And.intro hxl (And.intro htl hba)))
      clear hsq ho hbl hdr hcl hac hsp hxl htl hba
      go_wp2_with fail
      with_reducible refine hin.mono ?_
      rintro e w1 ⟨rfl, ⟨M, hM, hs1⟩, ho1⟩
      have HM := Lib.hid hM
      have HS1 := Lib.hid hs1
      have HO1 := Lib.hid (HO.out.trans ho1)
      clear hin hM hs1 ho1
      go_wp2_with fail
      go_roundw
      case rel =>
        obtain ⟨hsp, hxl, htl, hba⟩ := HX.out
        have hcl := HCL.out
        have hac := HAC.out
        have hml : M.length = 20 := by rw [HM.out.length]; exact hxl
        have hdl : (cur.drop b).length = n - b := by rw [List.length_drop]; omega
        refine ⟨c + 1, b, b + 20, cur.take a ++ (M ++ cur.drop b), rfl, by go_num, by omega, rfl, hbn, by rw [List.length_append, List.length_append, htl, hml, hdl]; omega, fun c' hc' => ?_, ?_, HS1.out, HO1.out⟩
        · rcases Nat.lt_or_ge c' c with h | h
          · have h1 := HBL.out c' h
            have hle : c' * 20 + 20 ≤ (cur.take a).length := by omega
            rw [hsp, blk_ahead hle] at h1
            rwa [blk_ahead hle]
          · obtain rfl : c' = c := by omega
            rw [blk_at (by omega) hml, ← blk_drop (L := cur) (by rw [← hac]; exact HDR.out)]
            exact HM.out
        · rw [← List.append_assoc, List.drop_append_of_le_length (by rw [List.length_append]; omega), List.drop_of_length_le (by rw [List.length_append]; omega), List.nil_append, hba, ← List.drop_drop, HDR.out, List.drop_drop]
      case measure => (have := HX.out.2.2.2; show n + 20 - (b : Int).toNat < n + 20 - (a : Int).toNat; omega)
    · have g1 : ¬ ((b : Int) ≤ (n : Int)) := by omega
      have htl : (cur.take a).length = a := by rw [List.length_take]; omega
      have hdl : (cur.drop a).length = n - a := by rw [List.length_drop]; omega
      have hin := insertion_any f J nb g off cap a n (cur.take a) (cur.drop a) [] wr HC.out (by rw [List.append_nil, List.take_append_drop]; exact hsq) HJ1.out htl (by omega) n (by rw [htl, hdl, List.length_nil]; omega) hl
      have HX := Lib.hid (And.intro htl (And.intro hdl (And.intro hba hbn)))
      clear hsq ho hbl hdr hcl hac htl hdl hba hbn
      go_wp2_with fail
      with_reducible refine hin.mono ?_
      rintro e w1 ⟨rfl, ⟨M, hM, hs1⟩, ho1⟩
      have HB1 : Hid ((∀ c, Stab f (sblk 20 c S) (sblk 20 c (cur.take a ++ M))) ∧ (cur.take a ++ M).length = n ∧ SeqAt w1 g off (cur.take a ++ M) ∧ Frm g off n w w1) := by
        obtain ⟨htl, hdl, hba, hbn⟩ := HX.out
        have hac := HAC.out
        have hml := hM.length
        refine ⟨fun c' => ?_, by rw [List.length_append]; omega, by simpa using hs1, HO.out.trans ho1⟩
        rcases Nat.lt_trichotomy c' c with h | h | h
        · have h1 := HBL.out c' h
          have hle : c' * 20 + 20 ≤ (cur.take a).length := by omega
          rw [← List.take_append_drop a cur, blk_ahead hle] at h1
          rwa [blk_ahead hle]
        · subst h
          rw [blk_end (by omega) (by omega), ← blk_drop (L := cur) (by rw [← hac]; exact HDR.out), ← List.take_append_drop a cur, blk_end (by omega) (by omega)]
          exact hM
        · have hz := HN.out
          rw [blk_none (by omega), blk_none (by rw [List.length_append]; omega)]
          exact Stab.nil
      clear hin hM hs1 ho1
      generalize cur.take a ++ M = L1 at HB1
      clear HX HQ HO HBL HDR HCL HAC HJ1 g1
      go_wp2_with fail
      go_loopw [6, 7, 8, 9] (fun sv _ _ _ wr => ∃ (bs : Nat) (L : List Int), sv = .int .i64 bs ∧ 0 < bs ∧ bs ≤ 2 * n + 20 ∧ (∀ c, Stab f (sblk bs c S) (sblk bs c L)) ∧ L.length = n ∧ SeqAt wr g off L ∧ Frm g off n w wr) (fun sv _ _ _ _ => n - (intOf sv).toNat)
      case atStart => exact ⟨20, L1, rfl, by omega, by omega, HB1.out.1, HB1.out.2.1, HB1.out.2.2.1, HB1.out.2.2.2⟩
      case round =>
        obtain ⟨bs, L, rfl, hb0, hbu, hSL, hLn, hsq, ho⟩ := hrel
        have HQ := Lib.hid hsq
        have HO := Lib.hid ho
        have HSL := Lib.hid hSL
        have HLn := Lib.hid hLn
        clear hSL hLn hsq ho HB1
        by_cases hlt : bs < n
        · have g2 : (bs : Int) < (n : Int) := by omega
          obtain ⟨d, hd⟩ : ∃ d, d = 2 * bs := ⟨_, rfl⟩
          have hdd : 2 * (bs : Int) = (d : Int) := by omega
          have hdd' : (bs : Int) * 2 = (d : Int) := by omega
          have hdl : d ≤ 2000000000 := by omega
          have HD := Lib.hid hd
          clear hd
          go_wp2_with fail
          go_loopw [7, 8] (fun av bv wr => ∃ (c a b : Nat) (cur : List Int), av = .int .i64 a ∧ bv = .int .i64 b ∧ a = c * (2 * bs) ∧ b = a + d ∧ a ≤ n ∧ cur.length = n ∧ (∀ c', c' < c → Stab f (sblk (2 * bs) c' S) (sblk (2 * bs) c' cur)) ∧ cur.drop a = L.drop a ∧ SeqAt wr g off cur ∧ Frm g off n w wr) (fun av _ _ => n + 20 - (intOf av).toNat)
          case atStart => exact ⟨0, 0, d, L, rfl, rfl, by omega, by omega, Nat.zero_le _, HLn.out, fun c' h => by omega, rfl, HQ.out, HO.out⟩
          case round =>
            obtain ⟨c, a, b, cur, rfl, rfl, hac, hba, han, hcl, hbl, hdr, hsq, ho⟩ := hrel
            have HJ1 : Hid (J wr) := HC.out.keep _ _ HJ.out ho.only
            have HO2 := Lib.hid ho
            obtain ⟨m, hm⟩ : ∃ m, m = a + bs := ⟨_, rfl⟩
            have hmm : (a : Int) + (bs : Int) = (m : Int) := by omega
            have hbb : (b : Int) + (d : Int) = ((b + d : Nat) : Int) := by omega
            obtain ⟨b2, hb2⟩ : ∃ b2, b2 = b + d := ⟨_, rfl⟩
            have hbb2 : (b : Int) + (d : Int) = (b2 : Int) := by omega
            have hb2l : b2 ≤ 6000000000 := by omega
            clear hbb
            by_cases hbn : b ≤ n
            · have g1 : (b : Int) ≤ (n : Int) := by omega
              obtain ⟨A, B, hcut, hA, hB, hsA, hsB, hnx⟩ := two_step (bs := bs) (c := c) (n := n) (a := a) (b := b) (S := S) hac (by rw [hba, HD.out]) hcl hbn hdr HSL.out hbl
              have htl : (cur.take a).length = a := by rw [List.length_take]; omega
              have hdl2 : (cur.drop b).length = n - b := by rw [List.length_drop]; omega
              have hsm := HSM.out a m b (cur.take a) A B (cur.drop b) wr (by have := HD.out; omega) (by omega) (by omega) hsA hsB (by rw [← hcut]; exact hsq) HJ1.out htl (by omega) (by have := HD.out; omega) (by have := HD.out; omega)
              have HNX := Lib.hid hnx
              have HX := Lib.hid (And.intro hac (And.intro hba hb2))
              clear hsq ho hbl hdr hcl hac hba hcut hA hB hsA hsB hnx htl hdl2 hm hb2
              go_wp2_with fail
              with_reducible refine hsm.mono ?_
              rintro e w1 ⟨rfl, ⟨M, hM, hs1⟩, ho1⟩
              have HM := Lib.hid (And.intro hM (And.intro hs1 (HO2.out.trans ho1)))
              clear hsm hM hs1 ho1
              go_wp2_with fail
              go_roundw
              case rel =>
                obtain ⟨hM, hs1, ho1⟩ := HM.out
                obtain ⟨hac, hba, hb2⟩ := HX.out
                obtain ⟨k1, k2, k3⟩ := HNX.out M hM
                have hd := HD.out
                exact ⟨c + 1, b, b2, _, rfl, rfl, by rw [Nat.add_mul, Nat.one_mul, ← hac]; omega, by omega, hbn, k2, k1, k3, hs1, ho1⟩
              case measure => (have := HX.out.2.1; have := HD.out; show n + 20 - (b : Int).toNat < n + 20 - (a : Int).toNat; omega)
            · have g1 : ¬ ((b : Int) ≤ (n : Int)) := by omega
              by_cases hmn : m < n
              · have g3 : (m : Int) < (n : Int) := by omega
                obtain ⟨A, B, hcut, hA, hB, hsA, hsB, hnx⟩ := two_rest (bs := bs) (c := c) (n := n) (a := a) (b := b) (m := m) (S := S) hac (by rw [hba, HD.out]) hcl HN.out (by omega) hm hmn hdr HSL.out hbl
                have htl : (cur.take a).length = a := by rw [List.length_take]; omega
                have hsm := HSM.out a m n (cur.take a) A B [] wr (by omega) (by omega) (by omega) hsA hsB (by rw [← hcut]; exact hsq) HJ1.out htl (by omega) hB (by simp; omega)
                have HNX := Lib.hid hnx
                clear hsq ho hbl hdr hcl hac hba hcut hA hB hsA hsB hnx htl hm hb2 hbn
                go_wp2_with fail
                with_reducible refine hsm.mono ?_
                rintro e w1 ⟨rfl, ⟨M, hM, hs1⟩, ho1⟩
                have HM := Lib.hid (And.intro hM (And.intro hs1 (HO2.out.trans ho1)))
                clear hsm hM hs1 ho1
                go_wp2_with fail
                go_roundw
                case rel =>
                  obtain ⟨hM, hs1, ho1⟩ := HM.out
                  obtain ⟨k1, k2⟩ := HNX.out M hM
                  have hd := HD.out
                  exact ⟨d, _, by go_num, by omega, by omega, by rw [hd]; exact k1, k2, hs1, ho1⟩
                case measure => (have := HD.out; show n - (d : Int).toNat < n - (bs : Int).toNat; omega)
              · have g3 : ¬ ((m : Int) < (n : Int)) := by omega
                have hnx := two_end (bs := bs) (c := c) (n := n) (a := a) (b := b) (m := m) (S := S) hac (by rw [hba, HD.out]) hcl HN.out (by omega) hm (by omega) hdr HSL.out hbl
                have HNX := Lib.hid (And.intro hnx (And.intro hcl hsq))
                clear hsq ho hbl hdr hcl hac hba hnx hm hb2 hbn
                go_wp2_with fail
                go_roundw
                case rel =>
                  obtain ⟨k1, k2, k3⟩ := HNX.out
                  have hd := HD.out
                  exact ⟨d, _, by go_num, by omega, by omega, by rw [hd]; exact k1, k2, k3, HO2.out⟩
                case measure => (have := HD.out; show n - (d : Int).toNat < n - (bs : Int).toNat; omega)
        · have g2 : ¬ ((bs : Int) < (n : Int)) := by omega
          go_wp2_with fail
          go_end0
          refine ⟨rfl, ⟨L, ?_, HQ.out⟩, HO.out⟩
          have := HSL.out 0
          rwa [blk_all (by have := HN.out; omega), blk_all (by have := HLn.out; omega)] at this
end Go.Proofs.YtnglhgogkemgbaaGreatDoor
namespace Go.Proofs.YtnglhgogkemgbaaGreatDoor
open Go.RowKit

set_option maxHeartbeats 1000000 in
set_option maxRecDepth 100000 in
theorem cmp_num (f : Int → Int) (g nb : Nat) (rv : Value) (I : World → Prop) (hf : ∀ r, 0 ≤ f r ∧ f r ≤ 255)
    (hcl : ∀ r W, I W → Calls Tryz.prog 100 #[rv, .int .i32 r] W fun e w' => e = .returned (.int .i64 (f r)) ∧ Below W.heap.size W w')
    (hI : ∀ W W', I W → Only (fun k => k = g) W W' → I W') (hne : nb ≠ g) :
    CmpBy f g nb (fun W => I W ∧ W.cell? ⟨nb, 0, none⟩ = some (.func (.func 100) #[rv] #[])) := by
  refine ⟨fun x y W ⟨hi, hc⟩ => ?_, fun W W' ⟨hi, hc⟩ ho => ⟨hI W W' hi ho, ?_⟩⟩
  · have HCL := Lib.hid hcl
    have HI := Lib.hid hi
    have HII := Lib.hid hI
    have hx := hf x
    have hy := hf y
    clear hcl hi hI hf
    generalize hfx : f x = fx at *
    generalize hfy : f y = fy at *
    have h1 : ∀ W', Below W.heap.size W W' → Calls Tryz.prog 100 #[rv, .int .i32 x] W' fun e w' => e = .returned (.int .i64 fx) ∧ Below W'.heap.size W' w' :=
      fun W' hb => by rw [← hfx]; exact HCL.out x W' (HII.out _ _ HI.out ((Only.refl _ _).below hb))
    have h2 : ∀ W', Below W.heap.size W W' → Calls Tryz.prog 100 #[rv, .int .i32 y] W' fun e w' => e = .returned (.int .i64 fy) ∧ Below W'.heap.size W' w' :=
      fun W' hb => by rw [← hfy]; exact HCL.out y W' (HII.out _ _ HI.out ((Only.refl _ _).below hb))
    have hnl : nb < W.heap.size := World.block_lt_of_cell? W ⟨nb, 0, none⟩ hc
    have H1 := Lib.hid h1
    have H2 := Lib.hid h2
    clear h1 h2 hfx hfy
    go_enter Tryz.func185, Tryz.ntmps185
    go_wp2_with fail
    refine wp_region_over (by kernel_rfl) (by kernel_rfl) ?_; (repeat (go_big_quiet_step (((go_at_call 100; first | (with_reducible exact over_of (H1.out _ (below_over _ _))) | (with_reducible exact over_of (H2.out _ (below_over _ _)))))))); refine wpQuiet_nil ?_; intro w1 hb1
    go_wp2_with fail
    go_ret
    exact ⟨rfl, hb1⟩
  · rw [World.cell?_of_block (w := W) (a := ⟨nb, 0, none⟩) (ho.block nb (World.block_lt_of_cell? W ⟨nb, 0, none⟩ hc) hne)]; exact hc
end Go.Proofs.YtnglhgogkemgbaaGreatDoor
/-! slices.SortStableFunc at []rune: symMerge where the first part is one element. -/
namespace Go.Proofs.YtnglhgogkemgbaaGreatDoor
open Go.RowKit

set_option maxHeartbeats 8000000 in
set_option maxRecDepth 1000000 in
theorem symLeft_any (f : Int → Int) (J : World → Prop) (nb g off cap a m b : Nat) (P B Q : List Int) (x : Int) (w : World) (hC : CmpBy f g nb J) (hs : SeqAt w g off (P ++ ([x] ++ (B ++ Q)))) (hj : J w) (ha : P.length = a) (hm : a + 1 = m) (hb : m + B.length = b) (hB : Srt f B) (len : Nat) (hlen : P.length + (1 + (B.length + Q.length)) = len) (hl : len ≤ 1000000000) :
    Calls Tryz.prog 204 #[.slice (some ⟨g, off, none⟩) len cap, .int .i64 a, .int .i64 m, .int .i64 b, .func (.func 185) #[] #[.pointer (some ⟨nb, 0, none⟩)]] w fun e w' =>
      e = .returned (.tuple #[]) ∧ (∃ M, Stab f ([x] ++ B) M ∧ SeqAt w' g off (P ++ (M ++ Q))) ∧ Frm g off len w w' := by
  have HS := Lib.hid hs
  have HJ := Lib.hid hj
  have HC := Lib.hid hC
  have HLN := Lib.hid (And.intro ha (And.intro hm (And.intro hb hlen)))
  have HSB := Lib.hid hB
  have hma : (m : Int) - (a : Int) = 1 := by omega
  have hbl : b ≤ len := by omega
  have hmb : m ≤ b := by omega
  have hal : a < len := by omega
  clear hs hj hC ha hb hlen hB hm
  go_enter Tryz.func204, Tryz.ntmps204
  go_wp2
  go_loopw [10, 11, 12] (fun iv jv _ wr => ∃ (i j : Nat), iv = .int .i64 i ∧ jv = .int .i64 j ∧ m ≤ i ∧ i ≤ j ∧ j ≤ b ∧ (∀ t y, m + t < i → B[t]? = some y → f y < f x) ∧ (∀ t y, j ≤ m + t → B[t]? = some y → f x ≤ f y) ∧ Below w.heap.size w wr) (fun iv jv _ _ => (intOf jv - intOf iv).toNat)
  case atStart => exact ⟨m, b, rfl, rfl, Nat.le_refl _, hmb, Nat.le_refl _, fun t y h => by omega, fun t y h hy => by have := (List.getElem?_eq_some_iff.1 hy).1; have := HLN.out; omega, Below.refl _ _⟩
  case round =>
    obtain ⟨i, j, rfl, rfl, hmi, hij, hjb, hlo, hhi, hbw⟩ := hrel
    have HLO := Lib.hid hlo
    have HHI := Lib.hid hhi
    have HBW := Lib.hid hbw
    have hsq : SeqAt wr g off (P ++ ([x] ++ (B ++ Q))) := HS.out.kept hbw
    have HJW : Hid (J wr) := HC.out.below HJ.out hbw
    clear hlo hhi hbw
    by_cases hlt : i < j
    · have e1 : (i : Int) < (j : Int) := by omega
      obtain ⟨h, hh⟩ : ∃ h, h = (i + j) / 2 := ⟨_, rfl⟩
      have hhm : ((i : Int) + (j : Int)) / 2 = (h : Int) := by omega
      obtain ⟨t, ht⟩ : ∃ t, t = h - m := ⟨_, rfl⟩
      have htl : t < B.length := by have := HLN.out; omega
      obtain ⟨y, hy⟩ : ∃ y, B[t]? = some y := ⟨B[t], List.getElem?_eq_getElem htl⟩
      have c1 := (hsq.2 h y (by
        have := HLN.out
        rw [List.getElem?_append_right (by omega), List.getElem?_append_right (by simp; omega), List.getElem?_append_left (by simp; omega), List.length_singleton, show h - P.length - 1 = t from by omega]; exact hy)).1
      have c2 := (hsq.2 a x (by rw [← HLN.out.1]; exact get_at P (B ++ Q) x)).1
      have hhl : h < len := by omega
      have hih : i ≤ h := by omega
      have hhj : h < j := by omega
      have hca : ∀ u', Calls Tryz.prog 185 #[.int .i32 y, .int .i32 x, .pointer (some ⟨nb, 0, none⟩)] (over wr u') fun e w' => e = .returned (.int .i64 (f y - f x)) ∧ Below (over wr u').heap.size (over wr u') w' :=
        fun u' => HC.out.call y x _ (HC.out.keep _ _ HJW.out ((Only.refl _ _).below (below_over wr u')))
      obtain ⟨q, hqe⟩ : ∃ q, q = f y - f x := ⟨_, rfl⟩
      rw [← hqe] at hca
      have HCA := Lib.hid hca
      have hgl := hsq.1
      have HY := Lib.hid (And.intro hy (And.intro htl (And.intro ht hqe)))
      clear hsq hh ht htl hy hqe
      by_cases hq0 : q < 0
      · have g2 : decide (q < 0) = true := decide_eq_true hq0
        clear hca
        go_wp2_with fail
        refine wp_region_over (by kernel_rfl) (by kernel_rfl) ?_; (repeat (go_big_quiet_step (((go_at_call 185; exact over_of (HCA.out _)))))); refine wpQuiet_nil ?_; intro w1 hb1
        have HB1 := Lib.hid hb1
        clear hb1 c1 c2
        go_wp2_with fail
        go_roundw
        case rel =>
          obtain ⟨hy, htl, ht, hqe⟩ := HY.out
          refine ⟨h + 1, j, by go_num, rfl, by omega, by omega, hjb, fun t' y' h1 hy' => ?_, HHI.out, HBW.out.trans (HB1.out.mono HBW.out.size)⟩
          have := HSB.out.at (i := t') (j := t) (by omega) hy' hy
          omega
        case measure => (show ((j : Int) - ((h : Int) + 1)).toNat < ((j : Int) - (i : Int)).toNat; omega)
      · have g2 : decide (q < 0) = false := decide_eq_false hq0
        clear hca
        go_wp2_with fail
        refine wp_region_over (by kernel_rfl) (by kernel_rfl) ?_; (repeat (go_big_quiet_step (((go_at_call 185; exact over_of (HCA.out _)))))); refine wpQuiet_nil ?_; intro w1 hb1
        have HB1 := Lib.hid hb1
        clear hb1 c1 c2
        go_wp2_with fail
        go_roundw
        case rel =>
          obtain ⟨hy, htl, ht, hqe⟩ := HY.out
          refine ⟨i, h, rfl, rfl, hmi, hih, by omega, HLO.out, fun t' y' h1 hy' => ?_, HBW.out.trans (HB1.out.mono HBW.out.size)⟩
          have := HSB.out.at (i := t) (j := t') (by omega) hy hy'
          omega
        case measure => (show ((h : Int) - (i : Int)).toNat < ((j : Int) - (i : Int)).toNat; omega)
    · have e1 : ¬ ((i : Int) < (j : Int)) := by omega
      obtain rfl : i = j := by omega
      obtain ⟨i1, hi1⟩ : ∃ i1, i = i1 + 1 := ⟨i - 1, by have := HLN.out; omega⟩
      have hi2 : (i : Int) - 1 = (i1 : Int) := by omega
      have hai : a ≤ i1 := by have := HLN.out; omega
      have HSQ := Lib.hid hsq
      have HI1 := Lib.hid hi1
      have hi1l : i1 + 1 < len + 1 := by omega
      clear hsq hij hi1
      go_wp2_with fail
      go_loopw [13] (fun kv wr2 => ∃ k : Nat, kv = .int .i64 k ∧ a ≤ k ∧ k ≤ i1 ∧ SeqAt wr2 g off (P ++ (B.take (k - a) ++ (x :: (B.drop (k - a) ++ Q)))) ∧ Frm g off len w wr2) (fun kv _ => i1 - (intOf kv).toNat)
      case atStart => exact ⟨a, rfl, Nat.le_refl _, hai, by rw [Nat.sub_self]; exact HSQ.out, Frm.of_below (HBW.out.mono (by have := HS.out.1; omega))⟩
      case round =>
        obtain ⟨k, rfl, hak, hki, hsq, ho⟩ := hrel
        have HO := Lib.hid ho
        have HQ := Lib.hid hsq
        clear hsq ho
        by_cases hlt2 : k < i1
        · have g1 : (k : Int) < (i1 : Int) := by omega
          obtain ⟨t, ht⟩ : ∃ t, t = k - a := ⟨_, rfl⟩
          have htl : t < B.length := by have := HLN.out; have := HI1.out; omega
          obtain ⟨y, hy1, hy2⟩ := drop_cons' htl
          obtain ⟨k2, hk2⟩ : ∃ k2, k2 = k + 1 := ⟨_, rfl⟩
          have hk3 : (k : Int) + 1 = (k2 : Int) := by omega
          have hq : SeqAt wr g off ((P ++ B.take t) ++ x :: ([] ++ y :: (B.drop (t + 1) ++ Q))) := by
            have := HQ.out; rw [← ht, hy2] at this; simpa [List.append_assoc] using this
          have l1 : k = (P ++ B.take t).length := by have := HLN.out; rw [List.length_append, List.length_take]; omega
          have l2 : k2 = (P ++ B.take t).length + (([] : List Int).length + 1) := by rw [← l1, hk2]; rfl
          obtain ⟨c1, c2⟩ := hq.get
          rw [← l1] at c1 c2
          obtain ⟨c3, c4⟩ := hq.2 k2 y (by rw [l2, List.getElem?_append_right (by omega), Nat.add_sub_cancel_left]; rfl)
          have hkl : k < len := by omega
          have hkl2 : k2 < len := by have := HI1.out; omega
          have hne : k ≠ k2 := by omega
          have HQ3 := Lib.hid (And.intro hq (And.intro l1 (And.intro l2 (And.intro hy1 (And.intro ht hk2)))))
          clear hq l1 l2 hy1 hy2 ht hk2 htl
          go_wp2
          go_region
          all_goals (go_wp2; go_roundw)
          case rel =>
            obtain ⟨hq, l1, l2, hy1, ht, hk2⟩ := HQ3.out
            refine ⟨k2, rfl, by omega, by omega, ?_, ((HO.out.setCell k hkl _).setCell k2 hkl2 _).drew⟩
            have h := (hq.swap l1 l2).drew
            rw [show k2 - a = t + 1 from by omega, take_snoc hy1]
            simpa [List.append_assoc] using h
          case measure => (have := HQ3.out.2.2.2.2.2; show i1 - (k2 : Int).toNat < i1 - (k : Int).toNat; omega)
        · have g1 : ¬ ((k : Int) < (i1 : Int)) := by omega
          go_wp2
          refine bodyPost_ret (results_none rfl _ _ _) rfl ?_
          refine ⟨rfl, ⟨_, Stab.left (U := B.take (k - a)) (V := B.drop (k - a)) (by rw [List.take_append_drop]; exact HSB.out) (mem_take_p (fun t y h hy => HLO.out t y (by have := HLN.out; have := HI1.out; omega) hy)) (mem_drop_p (fun t y h hy => HHI.out t y (by have := HLN.out; have := HI1.out; omega) hy)) |> fun h => by rw [List.take_append_drop] at h; exact h, ?_⟩, HO.out⟩
          simpa [List.append_assoc] using HQ.out
end Go.Proofs.YtnglhgogkemgbaaGreatDoor
/-! slices.SortStableFunc at []rune: symMerge where the second part is one element. -/
namespace Go.Proofs.YtnglhgogkemgbaaGreatDoor
open Go.RowKit

set_option maxHeartbeats 8000000 in
set_option maxRecDepth 1000000 in
theorem symRight_any (f : Int → Int) (J : World → Prop) (nb g off cap a m b : Nat) (P A Q : List Int) (y : Int) (w : World) (hC : CmpBy f g nb J) (hs : SeqAt w g off (P ++ (A ++ ([y] ++ Q)))) (hj : J w) (ha : P.length = a) (hm : a + A.length = m) (hb : m + 1 = b) (hA1 : 1 < A.length) (hA : Srt f A) (len : Nat) (hlen : P.length + (A.length + (1 + Q.length)) = len) (hl : len ≤ 1000000000) :
    Calls Tryz.prog 204 #[.slice (some ⟨g, off, none⟩) len cap, .int .i64 a, .int .i64 m, .int .i64 b, .func (.func 185) #[] #[.pointer (some ⟨nb, 0, none⟩)]] w fun e w' =>
      e = .returned (.tuple #[]) ∧ (∃ M, Stab f (A ++ [y]) M ∧ SeqAt w' g off (P ++ (M ++ Q))) ∧ Frm g off len w w' := by
  have HS := Lib.hid hs
  have HJ := Lib.hid hj
  have HC := Lib.hid hC
  have HLN := Lib.hid (And.intro ha (And.intro hm (And.intro hb hlen)))
  have HSA := Lib.hid hA
  have hma : ¬ ((m : Int) - (a : Int) = 1) := by omega
  have hbm : (b : Int) - (m : Int) = 1 := by omega
  have hmaB : ((m : Int) - (a : Int) == 1) = false := by simpa using hma
  have ham : a ≤ m := by omega
  have hml : m < len := by omega
  clear hs hj hC ha hb hlen hA hm hA1
  go_enter Tryz.func204, Tryz.ntmps204
  go_wp2
  go_loopw [14, 15, 16] (fun iv jv _ wr => ∃ (i j : Nat), iv = .int .i64 i ∧ jv = .int .i64 j ∧ a ≤ i ∧ i ≤ j ∧ j ≤ m ∧ (∀ t z, a + t < i → A[t]? = some z → f z ≤ f y) ∧ (∀ t z, j ≤ a + t → A[t]? = some z → f y < f z) ∧ Below w.heap.size w wr) (fun iv jv _ _ => (intOf jv - intOf iv).toNat)
  case atStart => exact ⟨a, m, rfl, rfl, Nat.le_refl _, ham, Nat.le_refl _, fun t y h => by omega, fun t y h hy => by have := (List.getElem?_eq_some_iff.1 hy).1; have := HLN.out; omega, Below.refl _ _⟩
  case round =>
    obtain ⟨i, j, rfl, rfl, hmi, hij, hjb, hlo, hhi, hbw⟩ := hrel
    have HLO := Lib.hid hlo
    have HHI := Lib.hid hhi
    have HBW := Lib.hid hbw
    have hsq : SeqAt wr g off (P ++ (A ++ ([y] ++ Q))) := HS.out.kept hbw
    have HJW : Hid (J wr) := HC.out.below HJ.out hbw
    clear hlo hhi hbw
    by_cases hlt : i < j
    · have e1 : (i : Int) < (j : Int) := by omega
      obtain ⟨h, hh⟩ : ∃ h, h = (i + j) / 2 := ⟨_, rfl⟩
      have hhm : ((i : Int) + (j : Int)) / 2 = (h : Int) := by omega
      obtain ⟨t, ht⟩ : ∃ t, t = h - a := ⟨_, rfl⟩
      have htl : t < A.length := by have := HLN.out; omega
      obtain ⟨z, hz⟩ : ∃ z, A[t]? = some z := ⟨A[t], List.getElem?_eq_getElem htl⟩
      have c1 := (hsq.2 h z (by
        have := HLN.out
        rw [List.getElem?_append_right (by omega), List.getElem?_append_left (by omega), show h - P.length = t from by omega]; exact hz)).1
      have c2 := (hsq.2 m y (by
        have := HLN.out
        rw [List.getElem?_append_right (by omega), List.getElem?_append_right (by omega), show m - P.length - A.length = 0 from by omega]; rfl)).1
      have hhl : h < len := by omega
      have hih : i ≤ h := by omega
      have hhj : h < j := by omega
      have hca : ∀ u', Calls Tryz.prog 185 #[.int .i32 y, .int .i32 z, .pointer (some ⟨nb, 0, none⟩)] (over wr u') fun e w' => e = .returned (.int .i64 (f y - f z)) ∧ Below (over wr u').heap.size (over wr u') w' :=
        fun u' => HC.out.call y z _ (HC.out.keep _ _ HJW.out ((Only.refl _ _).below (below_over wr u')))
      obtain ⟨q, hqe⟩ : ∃ q, q = f y - f z := ⟨_, rfl⟩
      rw [← hqe] at hca
      have HCA := Lib.hid hca
      have hgl := hsq.1
      have HY := Lib.hid (And.intro hz (And.intro htl (And.intro ht hqe)))
      clear hsq hh ht htl hz hqe
      by_cases hq0 : q < 0
      · have g2 : decide (q < 0) = true := decide_eq_true hq0
        clear hca
        go_wp2_with fail
        refine wp_region_over (by kernel_rfl) (by kernel_rfl) ?_; (repeat (go_big_quiet_step (((go_at_call 185; exact over_of (HCA.out _)))))); refine wpQuiet_nil ?_; intro w1 hb1
        have HB1 := Lib.hid hb1
        clear hb1 c1 c2
        go_wp2_with fail
        go_roundw
        case rel =>
          obtain ⟨hy, htl, ht, hqe⟩ := HY.out
          refine ⟨i, h, rfl, rfl, hmi, hih, by omega, HLO.out, fun t' z' h1 hz' => ?_, HBW.out.trans (HB1.out.mono HBW.out.size)⟩
          have := HSA.out.at (i := t) (j := t') (by omega) hy hz'
          omega
        case measure => (show ((h : Int) - (i : Int)).toNat < ((j : Int) - (i : Int)).toNat; omega)
      · have g2 : decide (q < 0) = false := decide_eq_false hq0
        have HQ0 := Lib.hid hq0
        clear hca hq0
        go_wp2_with fail
        refine wp_region_over (by kernel_rfl) (by kernel_rfl) ?_; (repeat (go_big_quiet_step (((go_at_call 185; exact over_of (HCA.out _)))))); refine wpQuiet_nil ?_; intro w1 hb1
        have HB1 := Lib.hid hb1
        clear hb1 c1 c2
        go_wp2_with fail
        go_roundw
        case rel =>
          obtain ⟨hy, htl, ht, hqe⟩ := HY.out
          have hq0 := HQ0.out
          refine ⟨h + 1, j, by go_num, rfl, by omega, by omega, hjb, fun t' z' h1 hz' => ?_, HHI.out, HBW.out.trans (HB1.out.mono HBW.out.size)⟩
          have := HSA.out.at (i := t') (j := t) (by omega) hz' hy
          omega
        case measure => (show ((j : Int) - ((h : Int) + 1)).toNat < ((j : Int) - (i : Int)).toNat; omega)
    · have e1 : ¬ ((i : Int) < (j : Int)) := by omega
      obtain rfl : i = j := by omega
      have HSQ := Lib.hid hsq
      clear hsq hij
      go_wp2_with fail
      go_loopw [17] (fun kv wr2 => ∃ k : Nat, kv = .int .i64 k ∧ i ≤ k ∧ k ≤ m ∧ SeqAt wr2 g off (P ++ (A.take (k - a) ++ (y :: (A.drop (k - a) ++ Q)))) ∧ Frm g off len w wr2) (fun kv _ => (intOf kv).toNat)
      case atStart =>
        refine ⟨m, rfl, hjb, Nat.le_refl _, ?_, Frm.of_below (HBW.out.mono (by have := HS.out.1; omega))⟩
        have := HLN.out
        rw [List.take_of_length_le (by omega), List.drop_of_length_le (by omega)]; exact HSQ.out
      case round =>
        obtain ⟨k, rfl, hik, hkm, hsq, ho⟩ := hrel
        have HO := Lib.hid ho
        have HQ := Lib.hid hsq
        clear hsq ho
        by_cases hlt2 : i < k
        · have g1 : (i : Int) < (k : Int) := by omega
          obtain ⟨t, ht⟩ : ∃ t, k = a + t + 1 := ⟨k - a - 1, by omega⟩
          have htl : t < A.length := by have := HLN.out; omega
          obtain ⟨z, hz⟩ : ∃ z, A[t]? = some z := ⟨A[t], List.getElem?_eq_getElem htl⟩
          obtain ⟨k1, hk1⟩ : ∃ k1, k1 = a + t := ⟨_, rfl⟩
          have hk3 : (k : Int) - 1 = (k1 : Int) := by omega
          have hq : SeqAt wr g off ((P ++ A.take t) ++ z :: ([] ++ y :: (A.drop (t + 1) ++ Q))) := by
            have := HQ.out; rw [show k - a = t + 1 from by omega, take_snoc hz] at this; simpa [List.append_assoc] using this
          have l1 : k1 = (P ++ A.take t).length := by have := HLN.out; rw [List.length_append, List.length_take]; omega
          have l2 : k = (P ++ A.take t).length + (([] : List Int).length + 1) := by rw [← l1, hk1, ht]; rfl
          obtain ⟨c1, c2⟩ := hq.get
          rw [← l1] at c1 c2
          obtain ⟨c3, c4⟩ := hq.2 k y (by rw [l2, List.getElem?_append_right (by omega), Nat.add_sub_cancel_left]; rfl)
          have hkl : k < len := by omega
          have hkl2 : k1 < len := by omega
          have hne : k ≠ k1 := by omega
          have hk0 : 0 < k := by omega
          have HQ3 := Lib.hid (And.intro hq (And.intro l1 (And.intro l2 (And.intro hz (And.intro ht hk1)))))
          clear hq l1 l2 hz ht hk1 htl hbm
          go_wp2
          go_region
          all_goals (go_wp2; go_roundw)
          case rel =>
            obtain ⟨hq, l1, l2, hz, ht, hk1⟩ := HQ3.out
            refine ⟨k1, rfl, by omega, by omega, ?_, ((HO.out.setCell k hkl _).setCell k1 hkl2 _).drew⟩
            have h := (hq.swap' l1 l2).drew
            obtain ⟨_, h2⟩ : ∃ u, A.drop t = u := ⟨_, rfl⟩
            have h3 : A.drop t = z :: A.drop (t + 1) := by
              obtain ⟨z', hz1, hz2⟩ := drop_cons' (l := A) (i := t) ((List.getElem?_eq_some_iff.1 hz).1)
              rw [hz] at hz1; cases hz1; exact hz2
            rw [show k1 - a = t from by omega, h3]
            simpa [List.append_assoc] using h
          case measure => (have := HQ3.out.2.2.2.2; show (k1 : Int).toNat < (k : Int).toNat; omega)
        · have g1 : ¬ ((i : Int) < (k : Int)) := by omega
          have hki : k = i := by omega
          go_wp2
          refine bodyPost_ret (results_none rfl _ _ _) rfl ?_
          have hst := Stab.insert (f := f) (S := A) (U := A.take (k - a)) (V := A.drop (k - a)) (x := y) (by rw [List.take_append_drop]; exact Stab.self HSA.out) (mem_take_p (fun t z h hz => HLO.out t z (by omega) hz)) (mem_drop_p (fun t z h hz => HHI.out t z (by omega) hz))
          refine ⟨rfl, ⟨_, hst, ?_⟩, HO.out⟩
          simpa [List.append_assoc] using HQ.out
end Go.Proofs.YtnglhgogkemgbaaGreatDoor
