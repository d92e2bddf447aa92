/- Package tailor: mixed and short: what they write, in plain words; walked. -/
import Derived.Test.YtchjjfjjcdjjcaaGreatDoorZa
import Derived.Test.YtchjjfjjcdjjcaaGreatDoorBe
import Derived.Test.YtchjjfjjcdjjcaaGreatDoorVc
import Derived.Test.YtchjjfjjcdjjcaaGreatDoorEnc
import Derived.Test.YtchjjfjjcdjjcaaGreatDoorVd
import Derived.Test.YtchjjfjjcdjjcaaGreatDoorGe
namespace Go.Proofs.YtchjjfjjcdjjcaaGreatDoor
open Go.RowKit
open PlainAid (bt)

def u8s (xs : List Int) : List UInt8 := (strOfNums xs).data.toList
theorem u8s_app (xs ys : List Int) : u8s (xs ++ ys) = u8s xs ++ u8s ys := by unfold u8s; rw [← strOfNums_app]; simp
theorem u8s_len (xs : List Int) : (u8s xs).length = xs.length := by unfold u8s; rw [← strOfNums_len xs]; exact Array.length_toList
theorem u8s_str (xs : List Int) : (⟨(u8s xs).toArray⟩ : ByteArray) = strOfNums xs := by unfold u8s; simp
/-- what one number is written as -/
def mixR (r : Int) : List Int := if r = 39 then [39, 39] else if r = 10 then [92, 117, 48, 48, 48, 97] else if quotL.contains r = true then [39, r, 39] else enc r
def mixT (l : List Int) : List Int := l.flatMap mixR
/-- is there a byte that may not stand in quotes? -/
def hasQ (l : List Int) : Bool := (l.flatMap enc).any fun x => x == 39 || x == 10
def shortT (l : List Int) : List Int := if hasQ l = false ∧ (l.flatMap enc).length + 2 < (mixT l).length then 39 :: (l.flatMap enc ++ [39]) else mixT l
theorem mixR_len (r : Int) : 1 ≤ (mixR r).length ∧ (mixR r).length ≤ 6 := by
  unfold mixR
  have h := enc_pos r
  have h2 := enc_len r
  split
  · simp
  · split
    · simp
    · split
      · simp
      · omega
theorem mixT_len (l : List Int) : l.length ≤ (mixT l).length ∧ (mixT l).length ≤ 6 * l.length := by
  induction l with
  | nil => simp [mixT]
  | cons r l ih =>
    have h := mixR_len r
    unfold mixT at *
    simp only [List.flatMap_cons, List.length_append, List.length_cons]
    omega
theorem mixT_snoc {xs : List Int} {k : Nat} {r : Int} (h : xs[k]? = some r) : mixT (xs.take (k + 1)) = mixT (xs.take k) ++ mixR r := by
  unfold mixT; rw [List.take_add_one, h]; simp
theorem sc_valid {r : Int} (h : sc r = true) : Lib.validRune r = true := by
  unfold sc at h
  unfold Lib.validRune
  simp at h ⊢
  omega
theorem runeB_enc {r : Int} (h : sc r = true) : runeB r = u8s (enc r) := by
  have hz : Lib.encodeRuneZ r = enc r := by
    unfold sc at h
    simp at h
    unfold Lib.encodeRuneZ enc
    by_cases h1 : r < 128
    · rw [if_pos (by omega), if_pos h1]
    · rw [if_neg (by omega), if_neg h1]
      by_cases h2 : r < 2048
      · rw [if_pos (by omega), if_pos h2]
      · rw [if_neg (by omega), if_neg h2]
        by_cases h3 : r < 65536
        · rw [if_pos (by omega), if_pos h3]
        · rw [if_neg (by omega), if_neg h3, if_pos (by omega)]
  unfold runeB Lib.encodeRune u8s strOfNums
  rw [hz]
theorem enc_ascii {r : Int} (h0 : 0 ≤ r) (h : r < 128) : Utf8.encode r = strOfNums [r] := by
  obtain ⟨n, rfl⟩ : ∃ n : Nat, r = n := ⟨r.toNat, by omega⟩
  have h := List.all_eq_true.1 (show (List.range 128).all (fun n => (Utf8.encode (n : Int)).data.toList == (strOfNums [(n : Int)]).data.toList) = true by kernel_rfl) n (List.mem_range.2 (by omega))
  exact ByteArray.ext (Array.ext' (by simpa using h))
theorem quot_lt {r : Int} (h : quotL.contains r = true) : 0 ≤ r ∧ r < 128 := by
  unfold quotL at h; simp at h; omega
theorem quot_str {r : Int} (h : quotL.contains r = true) : ((⟨#[39]⟩ : ByteArray) ++ Utf8.encode r) ++ (⟨#[39]⟩ : ByteArray) = strOfNums [39, r, 39] := by
  rw [enc_ascii (quot_lt h).1 (quot_lt h).2, byte_app, app_byte]; rfl
def MxRel (xs : List Int) (w : World) (k : Nat) (W : World) : Prop := k ≤ xs.length ∧ Bld w.heap.size w.heap.size (u8s (mixT (xs.take k))) W ∧ Below w.heap.size w W
set_option maxHeartbeats 4000000 in
set_option maxRecDepth 100000 in
theorem mixed_any (R : Nat → Prop) (xs : List Int) (v : Value) (w : World) (hv : IntsIn R .i32 w v xs) (hs : ∀ r ∈ xs, sc r = true) (hx : xs.length ≤ 1000000000) :
    Calls Tryz.prog 43 #[v] w fun e w' => e = .returned (.string (strOfNums (mixT xs))) ∧ Below w.heap.size w w' := by
  have HV := Lib.hid hv
  obtain ⟨p, cp, rfl, _⟩ := hv
  have HS := Lib.hid hs
  obtain ⟨n, hn⟩ : ∃ n, n = xs.length := ⟨_, rfl⟩
  rw [← hn] at HV hx ⊢
  have HN := Lib.hid hn
  clear hs hn
  go_enter Tryz.func43, Tryz.ntmps43
  go_wp2_with fail
  go_loopw [8] (fun iv W => ∃ k : Nat, iv = .int .i64 k ∧ MxRel xs w k W) (fun iv _ => n - (intOf iv).toNat)
  case atStart => exact ⟨0, rfl, Nat.zero_le _, bld_new w, (Below.refl _ _).alloc (Nat.le_refl _) _⟩
  case round =>
    obtain ⟨k, rfl, hk, hbl, hbw⟩ := hrel
    have HBL := Lib.hid hbl
    have HBW := Lib.hid hbw
    have hwz : w.heap.size ≤ wr.heap.size := hbw.size
    clear hbl hbw
    by_cases hlt : k < n
    · have g1 : (k : Int) < (n : Int) := by omega
      obtain ⟨r, hr⟩ : ∃ r, xs[k]? = some r := ⟨xs[k]'(by rw [← HN.out]; exact hlt), List.getElem?_eq_getElem _⟩
      have hkn := hlt
      rw [HN.out] at hkn
      obtain ⟨ab, ao, rfl, _, abl, hc⟩ := (HV.out.kept (Kept.below HBW.out)).at k hkn
      have hrd : xs.getD k 0 = r := by rw [List.getD_eq_getElem?_getD, hr]; rfl
      rw [hrd] at hc
      have HSC := Lib.hid (HS.out r (List.mem_of_getElem? hr))
      have HST := Lib.hid (mixT_snoc hr)
      have HLN : Hid ((u8s (mixT (xs.take k))).length ≤ 6000000000) := by
        show _ ≤ _
        rw [u8s_len]
        have h1 := (mixT_len (xs.take k)).2
        have h2 : (xs.take k).length ≤ xs.length := by rw [List.length_take]; omega
        have := HN.out
        omega
      have HFIN : Hid (∀ (ys : List Int) W, mixR r = ys → Bld w.heap.size w.heap.size (u8s (mixT (xs.take k)) ++ u8s ys) W → Below w.heap.size w W → MxRel xs w (k + 1) W) := fun ys W h1 h2 h3 => ⟨by omega, by rw [HST.out, h1, u8s_app]; exact h2, h3⟩
      clear hr hrd hkn hlt hk HST
      by_cases h39 : r = 39
      · subst h39
        go_wp2_with fail
        refine (bldWriteString_any _ _ _ _ _ HBL.out (by have := HLN.out; have : (⟨#[39, 39]⟩ : ByteArray).size = 2 := rfl; omega) hwz).mono ?_
        rintro e w1 ⟨rfl, h1, h2, _, _⟩
        have HR := Lib.hid (HFIN.out [39, 39] w1 rfl h1 (HBW.out.trans h2))
        clear h1 h2
        go_wp2_with fail
        go_roundw
        case rel => exact ⟨k + 1, by go_num, HR.out⟩
        case measure => (show n - ((k : Int) + 1).toNat < n - (k : Int).toNat; omega)
      · by_cases h10 : r = 10
        · subst h10
          go_wp2_with fail
          refine (bldWriteString_any _ _ _ _ _ HBL.out (by have := HLN.out; have : (⟨#[92, 117, 48, 48, 48, 97]⟩ : ByteArray).size = 6 := rfl; omega) hwz).mono ?_
          rintro e w1 ⟨rfl, h1, h2, _, _⟩
          have HR := Lib.hid (HFIN.out [92, 117, 48, 48, 48, 97] w1 rfl h1 (HBW.out.trans h2))
          clear h1 h2
          go_wp2_with fail
          go_roundw
          case rel => exact ⟨k + 1, by go_num, HR.out⟩
          case measure => (show n - ((k : Int) + 1).toNat < n - (k : Int).toNat; omega)
        · have e39 : (r == 39) = false := beq_eq_false_iff_ne.2 h39
          have e10 : (r == 10) = false := beq_eq_false_iff_ne.2 h10
          have HMR : Hid (mixR r = if quotL.contains r = true then [39, r, 39] else enc r) := by show _ = _; unfold mixR; rw [if_neg h39, if_neg h10]
          have HCR := Lib.hid (fun w => containsRune_any r w (sc_valid HSC.out))
          have HQS := Lib.hid (fun h => quot_str (r := r) h)
          clear h39 h10
          have hrb := HSC.out
          unfold sc at hrb
          simp only [Bool.or_eq_true, decide_eq_true_eq] at hrb
          have hr0 : -2147483648 ≤ r := by omega
          have hr1 : r ≤ 2147483647 := by omega
          clear hrb
          cases hq : quotL.contains r
          · rw [hq] at HMR HCR
            go_wp2_with fail
            refine (HCR.out _).mono ?_
            rintro e w1 ⟨rfl, hb1⟩
            have HB1 : Hid (Below w.heap.size w w1) := HBW.out.trans (hb1.mono hwz)
            have HBL1 := Lib.hid (bld_old HBL.out hb1)
            have hwz1 : w.heap.size ≤ w1.heap.size := HB1.out.size
            clear hb1
            go_wp2_with fail
            refine (bldWriteRune_any _ _ _ r hr0 hr1 _ HBL1.out (by have := HLN.out; omega) hwz1).mono ?_
            rintro e w2 ⟨⟨m, rfl⟩, h1, h2, _, _⟩
            have HR := Lib.hid (HFIN.out (enc r) w2 (by rw [HMR.out, if_neg (by decide)]) (by rw [← runeB_enc HSC.out]; exact h1) (HB1.out.trans h2))
            clear h1 h2
            go_wp2_with fail
            go_roundw
            case rel => exact ⟨k + 1, by go_num, HR.out⟩
            case measure => (show n - ((k : Int) + 1).toNat < n - (k : Int).toNat; omega)
          · rw [hq] at HMR HCR
            have HQ2 := Lib.hid (HQS.out hq)
            go_wp2_with fail
            refine (HCR.out _).mono ?_
            rintro e w1 ⟨rfl, hb1⟩
            have HB1 : Hid (Below w.heap.size w w1) := HBW.out.trans (hb1.mono hwz)
            have HBL1 := Lib.hid (bld_old HBL.out hb1)
            have hwz1 : w.heap.size ≤ w1.heap.size := HB1.out.size
            clear hb1
            have hes : (Utf8.encode r).size = 1 := by rw [enc_ascii (quot_lt hq).1 (quot_lt hq).2, strOfNums_len]; rfl
            go_wp2_with fail
            rw [HQ2.out]
            refine (bldWriteString_any _ _ _ _ _ HBL1.out (by have := HLN.out; rw [strOfNums_len]; simp; omega) hwz1).mono ?_
            rintro e w2 ⟨rfl, h1, h2, _, _⟩
            have HR := Lib.hid (HFIN.out [39, r, 39] w2 (by rw [HMR.out, if_pos trivial]) h1 (HB1.out.trans h2))
            clear h1 h2
            go_wp2_with fail
            go_roundw
            case rel => exact ⟨k + 1, by go_num, HR.out⟩
            case measure => (show n - ((k : Int) + 1).toNat < n - (k : Int).toNat; omega)
    · have hk' : k ≤ n := by rw [HN.out]; exact hk
      obtain rfl : k = n := by omega
      have g1 : ¬ ((k : Int) < (k : Int)) := by omega
      have HT : Hid (xs.take k = xs) := List.take_of_length_le (by rw [← HN.out]; exact Nat.le_refl _)
      rw [HT.out] at HBL
      clear hlt hk
      go_wp2_with fail
      refine (bldString_any _ _ _ _ HBL.out hwz).mono ?_
      rintro e w1 ⟨rfl, hb1⟩
      have HB1 : Hid (Below w.heap.size w w1) := HBW.out.trans hb1
      clear hb1
      rw [u8s_str]
      go_wp2_with fail
      go_ret
      exact ⟨rfl, HB1.out⟩
theorem hasQ_index (l : List Int) (h : ∀ r ∈ l, sc r = true) : decide (0 ≤ Lib.indexAny (strOfNums (l.flatMap enc)).data.toList [39, 10]) = hasQ l := by
  have hbd := flat_bd l h
  unfold hasQ
  generalize l.flatMap enc = ys at *
  have he : ∀ x ∈ ys, ([39, 10] : List UInt8).contains (UInt8.ofNat x.toNat) = (x == 39 || x == 10) := fun x hx => by
    rw [qb_iff x (hbd x hx).1 (by have := (hbd x hx).2; omega)]
    rw [Bool.eq_iff_iff]; simp
  rcases any_cases (strOfNums ys).data.toList [39, 10] with ⟨h1, h2⟩ | ⟨n, x, h1, h2, h3, h4⟩
  · rw [h2, decide_eq_false (by omega)]
    symm
    rw [Bool.eq_false_iff]
    intro ha
    obtain ⟨x, hx, hb⟩ := List.any_eq_true.1 ha
    obtain ⟨j, hj⟩ := List.mem_iff_getElem?.1 hx
    have hj2 : (strOfNums ys).data.toList[j]? = some (UInt8.ofNat x.toNat) := by
      unfold strOfNums; simp [hj]
    have := h1 j _ (List.getElem?_eq_some_iff.1 hj2).1 hj2
    rw [he x hx, hb] at this
    cases this
  · rw [h4, decide_eq_true (by omega)]
    symm
    have hn : ∃ y, ys[n]? = some y ∧ x = UInt8.ofNat y.toNat := by
      unfold strOfNums at h2
      simp at h2
      obtain ⟨y, hy, rfl⟩ := h2
      exact ⟨y, hy, rfl⟩
    obtain ⟨y, hy, rfl⟩ := hn
    rw [List.any_eq_true]
    exact ⟨y, List.mem_of_getElem? hy, by rw [← he y (List.mem_of_getElem? hy)]; exact h3⟩
end Go.Proofs.YtchjjfjjcdjjcaaGreatDoor
