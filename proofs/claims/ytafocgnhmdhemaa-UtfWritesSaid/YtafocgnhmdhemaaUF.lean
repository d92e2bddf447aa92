/- The law UtfWrites, walked. -/
import Derived.Test.YtafocgnhmdhemaaUE
import Derived.Test.YtafocgnhmdhemaaUC
namespace Go.Proofs.Ytafocgnhmdhemaa
open Go.RowKit
open PlainAid (bt)

/-- where a scalar's form stands it is read -/
theorem fm_enc (s : ByteArray) (p : Nat) (r : Int) (h : sc r = true) (hz : p + lg r ≤ s.size) (hb : ∀ (k : Nat) x, (enc r)[k]? = some x → bt s (p + k) = x) : fmR s p = r ∧ fmN s p = lg r := by
  have hr := sc_bd h
  have hstr : ∀ n, lg r = n → strOfNums (enc r) = s.extract p (p + n) := fun n hn => (str_is s r p n (by omega) h).2 ⟨hn, hb⟩
  by_cases h1 : r < 128
  · have hl : lg r = 1 := by unfold lg; rw [if_pos h1]
    have he : enc r = [r] := by unfold enc; rw [if_pos h1]
    have e0 := hb 0 r (by rw [he]; rfl)
    rw [Nat.add_zero] at e0
    have hq : q1 s p = r := e0
    have := (is1_iff s p (by omega)).1 ⟨by rw [hq]; exact h, by rw [hq]; exact hstr 1 hl⟩
    obtain ⟨g1, g2⟩ := fm_yes1 s p this
    exact ⟨by rw [g1]; exact e0, by rw [g2, hl]⟩
  by_cases h2 : r < 2048
  · have hl : lg r = 2 := by unfold lg; rw [if_neg h1, if_pos h2]
    have he : enc r = [192 + r / 64, 128 + r % 64] := by unfold enc; rw [if_neg h1, if_pos h2]
    have e0 := hb 0 _ (by rw [he]; rfl)
    have e1 := hb 1 _ (by rw [he]; rfl)
    rw [Nat.add_zero] at e0
    have hq : q2 s p = r := by unfold q2; rw [e0, e1]; omega
    have hi := (is2_iff s p (by omega)).1.1 ⟨by rw [hq]; exact h, by rw [hq]; exact hstr 2 hl⟩
    obtain ⟨g1, g2⟩ := fm_yes2 s p hi
    exact ⟨by rw [g1, ← (is2_iff s p (by omega)).2 hi, hq], by rw [g2, hl]⟩
  by_cases h3 : r < 65536
  · have hl : lg r = 3 := by unfold lg; rw [if_neg h1, if_neg h2, if_pos h3]
    have he : enc r = [224 + r / 4096, 128 + r / 64 % 64, 128 + r % 64] := by unfold enc; rw [if_neg h1, if_neg h2, if_pos h3]
    have e0 := hb 0 _ (by rw [he]; rfl)
    have e1 := hb 1 _ (by rw [he]; rfl)
    have e2 := hb 2 _ (by rw [he]; rfl)
    rw [Nat.add_zero] at e0
    have hq : q3 s p = r := by unfold q3; rw [e0, e1, e2]; omega
    have hi := (is3_iff s p (by omega)).1.1 ⟨by rw [hq]; exact h, by rw [hq]; exact hstr 3 hl⟩
    obtain ⟨g1, g2⟩ := fm_yes3 s p hi
    exact ⟨by rw [g1, ← (is3_iff s p (by omega)).2 hi, hq], by rw [g2, hl]⟩
  · have hl : lg r = 4 := by unfold lg; rw [if_neg h1, if_neg h2, if_neg h3]
    have he : enc r = [240 + r / 262144, 128 + r / 4096 % 64, 128 + r / 64 % 64, 128 + r % 64] := by unfold enc; rw [if_neg h1, if_neg h2, if_neg h3]
    have e0 := hb 0 _ (by rw [he]; rfl)
    have e1 := hb 1 _ (by rw [he]; rfl)
    have e2 := hb 2 _ (by rw [he]; rfl)
    have e3 := hb 3 _ (by rw [he]; rfl)
    rw [Nat.add_zero] at e0
    have hq : q4 s p = r := by unfold q4; rw [e0, e1, e2, e3]; omega
    have hi := (is4_iff s p (by omega)).1.1 ⟨by rw [hq]; exact h, by rw [hq]; exact hstr 4 hl⟩
    obtain ⟨g1, g2⟩ := fm_yes4 s p hi
    exact ⟨by rw [g1, ← (is4_iff s p (by omega)).2 hi, hq], by rw [g2, hl]⟩
theorem flat_bd (xs : List Int) (h : ∀ r ∈ xs, sc r = true) : ∀ x ∈ xs.flatMap enc, 0 ≤ x ∧ x < 256 := by
  intro x hx
  obtain ⟨r, hr, hm⟩ := List.mem_flatMap.1 hx
  exact enc_bd r (h r hr) x hm
theorem dec_enc (all : List Int) (h : ∀ r ∈ all, sc r = true) : ∀ (suf pre : List Int), all = pre ++ suf →
    BD (strOfNums (all.flatMap enc)) (pre.flatMap enc).length = none ∧ DC (strOfNums (all.flatMap enc)) (pre.flatMap enc).length = suf := by
  intro suf
  induction suf with
  | nil =>
    intro pre e
    have hs : (strOfNums (all.flatMap enc)).size ≤ (pre.flatMap enc).length := by rw [strOfNums_size, e, List.append_nil]; exact Nat.le_refl _
    exact ⟨by rw [BD_eq, if_pos hs], by rw [DC_eq, if_pos hs]⟩
  | cons r suf ih =>
    intro pre e
    have hr : sc r = true := h r (by rw [e]; simp)
    have hl : all.flatMap enc = pre.flatMap enc ++ (enc r ++ suf.flatMap enc) := by rw [e, List.flatMap_append, List.flatMap_cons]
    have hp := enc_pos r
    have hlen := enc_len r
    have hsz : (strOfNums (all.flatMap enc)).size = (pre.flatMap enc).length + (lg r + (suf.flatMap enc).length) := by rw [strOfNums_size, hl, List.length_append, List.length_append, hlen]
    have hf := fm_enc (strOfNums (all.flatMap enc)) (pre.flatMap enc).length r hr (by omega) (by
      intro k x hk
      have hb := enc_bd r hr x (List.mem_of_getElem? hk)
      refine bt_str' _ _ _ ?_ hb.1 hb.2
      have hkl : k < (enc r).length := (List.getElem?_eq_some_iff.1 hk).1
      rw [hl, List.getElem?_append_right (by omega), show (pre.flatMap enc).length + k - (pre.flatMap enc).length = k by omega, List.getElem?_append_left hkl]
      exact hk)
    have hn := ih (pre ++ [r]) (by rw [e]; simp)
    have hl2 : ((pre ++ [r]).flatMap enc).length = (pre.flatMap enc).length + lg r := by rw [List.flatMap_append, List.length_append]; simp [hlen]
    rw [hl2] at hn
    refine ⟨?_, ?_⟩
    · rw [BD_eq, if_neg (by omega), hf.2, if_neg (by omega)]; exact hn.1
    · rw [DC_eq, if_neg (by omega), hf.1, hf.2, if_neg (by omega), hn.2]
theorem fb_all {xs : List Int} (h : fb xs = none) : ∀ r ∈ xs, sc r = true := by
  intro r hr
  unfold fb at h
  rw [List.findIdx?_eq_none_iff] at h
  have := h r hr
  simpa using this
/-- what is written is read -/
theorem back (xs : List Int) (h : fb xs = none) : BD (ecS xs) 0 = none ∧ dcV (ecS xs) = xs := by
  have := dec_enc xs (fb_all h) xs [] rfl
  rw [(ec_none h).1]
  refine ⟨this.1, ?_⟩
  unfold dcV
  rw [show BD (strOfNums (xs.flatMap enc)) 0 = none from this.1]
  exact this.2

set_option maxHeartbeats 4000000 in
set_option maxRecDepth 100000 in
theorem law_writes (xs : List Int) (u : Value) (w : World) (hu : IntsAt 0 .i32 w u xs) (hx : xs.length ≤ 35184372088832) :
    Calls Try.prog 6 #[u] w fun e w' => e = .returned (.bool true) ∧ Below w.heap.size w w' := by
  have HU0 := Lib.hid hu
  obtain ⟨p, cp, rfl, _⟩ := hu
  by_cases hlen : 2000 < xs.length
  · have hl1 : decide ((2000 : Int) < (xs.length : Int)) = true := decide_eq_true (by omega)
    have hl2 : decide (2000 < xs.length) = true := decide_eq_true hlen
    clear hlen
    go_enter Try.func6, Try.ntmps6
    go_wp2_with fail
    refine (awake_any _).mono ?_
    rintro e w1 ⟨rfl, hb1⟩
    go_wp2_with fail
    go_ret
    exact ⟨rfl, hb1⟩
  · have hl1 : decide ((2000 : Int) < (xs.length : Int)) = false := decide_eq_false (by omega)
    have hl2 : decide (2000 < xs.length) = false := decide_eq_false hlen
    have HX : Hid (xs.length ≤ 8796093022000) := (show xs.length ≤ 8796093022000 by omega)
    have HX2 : Hid (xs.length ≤ 2000) := (show xs.length ≤ 2000 by omega)
    have hx3 : xs.length ≤ 2000 := HX2.out
    clear hlen hx
    go_enter Try.func6, Try.ntmps6
    go_wp2_with fail
    refine (awake_any _).mono ?_
    rintro e w1 ⟨rfl, hb1⟩
    have K1 := Lib.hid hb1
    have U1 := Lib.hid (HU0.out.below hb1); clear hb1 HU0
    go_wp2_with fail
    refine (uEncode_any xs _ _ U1.out HX.out).mono ?_
    rintro e w2 ⟨rfl, hb2⟩
    have K2 := Lib.hid (K1.out.trans (hb2.mono K1.out.size))
    have U2 := Lib.hid (U1.out.below hb2); clear hb2 U1 K1
    go_wp2_with fail
    refine (rEncode_any xs _ _ U2.out HX.out).mono ?_
    rintro e w3 ⟨rfl, hb3⟩
    have K3 := Lib.hid (K2.out.trans (hb3.mono K2.out.size))
    have U3 := Lib.hid (U2.out.below hb3); clear hb3 U2 K2
    go_wp2_with fail
    go_loopw [45] (fun i wr => ∃ k : Nat, i = .int .i64 k ∧ k ≤ xs.length ∧ Below w3.heap.size w3 wr) (fun i _ => xs.length - (intOf i).toNat)
    case atStart => exact ⟨0, rfl, Nat.zero_le _, Below.refl _ _⟩
    case round =>
      obtain ⟨k, rfl, hk, hbr⟩ := hrel
      have UR := Lib.hid (U3.out.below hbr)
      have KR := Lib.hid hbr
      clear hbr
      by_cases hlt : k < xs.length
      · have hlt' : decide (k < xs.length) = true := decide_eq_true hlt
        obtain ⟨b, o, rfl, _, hb, hc⟩ := UR.out.at k hlt
        have HL := Lib.hid hlt
        generalize xs.getD k 0 = x at hc
        clear hlt
        go_wp2_with fail
        refine (scalar_any _ _).mono ?_
        rintro e w4 ⟨rfl, rfl⟩
        go_wp2_with fail
        refine (rscalar_any _ _).mono ?_
        rintro e w4 ⟨rfl, rfl⟩
        go_wp2_with fail
        go_roundw
        case rel => exact ⟨k + 1, by go_num, HL.out, KR.out⟩
        case measure => (have hq := HL.out; simp [intOf]; omega)
      · have hlt' : decide (k < xs.length) = false := decide_eq_false hlt
        clear hlt hk
        cases hf : fb xs with
        | some j =>
          have hE : ecE xs = 41 := (ec_some hf).2.2
          have hE2 : (ecE xs != 0) = true := by rw [hE]; rfl
          clear hf hE
          go_wp2_with fail
          go_ret
          exact ⟨rfl, K3.out.trans (KR.out.mono K3.out.size)⟩
        | none =>
          have hE : ecE xs = 0 := (ec_none hf).2.2
          have hE2 : (ecE xs != 0) = false := by rw [hE]; rfl
          have HBK := Lib.hid (back xs hf)
          have HSZ : Hid ((ecS xs).size ≤ 35184372088000) := by
            show _ ≤ _; rw [(ec_none hf).1, strOfNums_size]; have := enc_flat_len xs; omega
          have HBE := Lib.hid (bd_none HBK.out.1)
          clear hf hE
          go_wp2_with fail
          refine (uDecode_any _ _ HSZ.out).mono ?_
          rintro e w4 ⟨v, rfl, hv, hb4⟩
          rw [HBE.out.1, HBE.out.2]
          rw [HBK.out.2] at hv
          have HV := Lib.hid (hv.ints.mono (Nat.zero_le _))
          have U4 := Lib.hid (UR.out.below hb4)
          have K4 := Lib.hid ((K3.out.trans (KR.out.mono K3.out.size)).trans (hb4.mono (Nat.le_trans K3.out.size KR.out.size)))
          clear hv hb4
          go_wp2_with fail
          refine (same_same xs _ _ _ HV.out U4.out (by have := HX2.out; unfold maxLen; omega)).mono ?_
          rintro e w5 ⟨rfl, hb5⟩
          have K5 := Lib.hid (K4.out.trans (hb5.mono K4.out.size))
          clear hb5
          go_wp2_with fail
          go_ret
          exact ⟨rfl, K5.out⟩
end Go.Proofs.Ytafocgnhmdhemaa
